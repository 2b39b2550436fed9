/- The wider pull of the statements (layer 4), walked. -/
import Derived.Test.YtjlibgledkdfiaaWd4
import Derived.Shelf.Abstract
import Derived.Laws.EntriesVeiled
import Derived.Handy
import Derived.Deep.DrawnRows
import Derived.Deep.DeepCutAuto
import Derived.OrdersIn
import Derived.Deep.Quiet
import Derived.Lib.QuietBelow
import Derived.TacticsIn
import Derived.RangeFuncCalls
import Derived.BigRegionIn
import Derived.Shelf.RegionOpen
namespace Go.Proofs.Ytjlibgledkdfiaa
open Go.RowKit
open Go.Sort (grow)
set_option linter.unusedVariables false

set_option maxRecDepth 100000 in
set_option maxHeartbeats 6400000 in
theorem wider4_11 (Ar : Option Addr) (nr cr : Nat) (Ad : Option Addr) (nd cd : Nat) (p : P4) (x : Re4) (m0 m1 m2 m3 m4 m5 m6 : Int) (w : World) (HM : MemP Ar nr Ad nd p w) (ok : Ok4 nr nd p) (h1 : 0 ≤ m1 ∧ m1 ≤ 1000) (h2 : 0 ≤ m2 ∧ m2 ≤ 1000) (h4 : 0 ≤ m4 ∧ m4 ≤ 1000) (h5 : 0 ≤ m5 ∧ m5 ≤ 1000) (h6 : 0 ≤ m6 ∧ m6 ≤ 1000) (hA : 0 ≤ m0 ∧ m0 < nd) (hB : 0 ≤ m3 ∧ m3 < nr) :
    Calls Try.prog 21 #[.agg #[.int .i64 p.ir, .int .i64 p.glo, .int .i64 p.ghi, .slice Ar nr cr, .slice Ad nd cd, .int .i64 p.wr], .agg #[.int .i64 x.wh, .int .i64 x.rd, .int .i64 x.ct, .int .i64 x.rs, .int .i64 x.of, .int .i64 x.lo, .int .i64 x.hi, .int .i64 m0, .int .i64 m1, .int .i64 m2, .int .i64 m3, .int .i64 m4, .int .i64 m5, .int .i64 m6]] w
      fun e w' => ∃ A1 c1 A2 c2, e = .returned (.agg #[.int .i64 p.ir, .int .i64 (p.glo - m6), .int .i64 (p.ghi + m6), .slice A1 nr c1, .slice A2 nd c2, .int .i64 (p.wr + m5)]) ∧ PuOwn w.heap.size A1 nr c1 A2 nd c2 (wdRs p.rods m3 m4) (wdDs p.res m0 m1 m2) w' ∧ Below w.heap.size w w' := by
  have hnr4 := ok.nr4
  have hnd8 := ok.nd8
  have HCP := Lib.hid (fun V (hV : Below w.heap.size w V) => Copy4_c Ar nr cr Ad nd cd p V (by omega) (by omega) (HM.later hV))
  have hr := ok.lr
  have hd := ok.ld
  have hg := ok.g
  have hwr := ok.wr
  have HRE := Lib.hid ok.re
  have HRO := Lib.hid ok.ro
  clear ok HM
  obtain ⟨ir, glo, ghi, wrg, rods, res⟩ := p
  obtain ⟨xw, xr, xc, xs, xo, xl, xh⟩ := x
  simp only at HCP hr hd hg hwr HRE HRO ⊢
  have V5 : IntKind.i64.wrap (wrg + m5) = wrg + m5 := IntWalk.i64_in _ (by omega)
  have V6 : IntKind.i64.wrap (glo - m6) = glo - m6 := IntWalk.i64_in _ (by omega)
  have V7 : IntKind.i64.wrap (ghi + m6) = ghi + m6 := IntWalk.i64_in _ (by omega)
  have HRL := Lib.hid hr
  have HDL := Lib.hid hd
  have HIR := fun A1 k1 A2 k2 V => isRod4_c ir glo ghi wrg A1 nr k1 A2 nd k2 m3 V (by omega)
  have hRs : wdRs rods m3 m4 = if 0 ≤ m3 ∧ m3 < nr then rods.set m3.toNat (wdRo (roAt rods m3.toNat) m4) else rods := by unfold wdRs; rw [hr]
  have hDs : wdDs res m0 m1 m2 = if 0 ≤ m0 ∧ m0 < nd then res.set m0.toNat (wdRe (reAt res m0.toNat) m1 m2) else res := by unfold wdDs; rw [hd]
  rw [hRs, hDs]
  clear hRs hDs hr hd
  rw [if_pos hB, if_pos hA]
  obtain ⟨k, rfl⟩ : ∃ k : Nat, m0 = k := ⟨m0.toNat, by omega⟩
  have hk : k < nd := by omega
  rw [Int.toNat_natCast]
  have HK := Lib.hid hk
  have a1B : decide ((0 : Int) ≤ (k : Int)) = true := decide_eq_true (by omega)
  have a2B : decide (k < nd) = true := decide_eq_true hk
  have hre := HRE.out k hk
  obtain ⟨⟨qw, qr, qc, qS, qo, ql, qh⟩, hrk⟩ : ∃ y, reAt res k = y := ⟨_, rfl⟩
  rw [hrk] at hre ⊢
  simp only [wdRe] at hre ⊢
  have HE0 := Lib.hid hrk
  have VA1 := Lib.hid (IntWalk.i64_in (qo + m1) (by omega) : IntKind.i64.wrap (qo + m1) = qo + m1)
  have VA2 := Lib.hid (IntWalk.i64_in (ql - m2) (by omega) : IntKind.i64.wrap (ql - m2) = ql - m2)
  have VA3 := Lib.hid (IntWalk.i64_in (qh + m2) (by omega) : IntKind.i64.wrap (qh + m2) = qh + m2)
  clear hA hre hrk HRE
  obtain ⟨r, rfl⟩ : ∃ r : Nat, m3 = r := ⟨m3.toNat, by omega⟩
  have hkr : r < nr := by omega
  rw [Int.toNat_natCast]
  have HKr := Lib.hid hkr
  rw [show wn (r : Int) 0 ((nr : Int) - 1) = true from wn_true.2 (by omega)] at HIR
  replace HIR := Lib.hid HIR
  have hro := HRO.out r hkr
  obtain ⟨⟨dl, dw, dg⟩, hrk⟩ : ∃ y, roAt rods r = y := ⟨_, rfl⟩
  rw [hrk] at hro ⊢
  simp only [wdRo] at hro ⊢
  have HF0 := Lib.hid hrk
  have VB := Lib.hid (IntWalk.i64_in (dw + m4) (by omega) : IntKind.i64.wrap (dw + m4) = dw + m4)
  clear hB hro hrk HRO
  go_enter Try.func21, Try.ntmps21
  go_upto_region 1 with (fail)
  go_name_world X hX
  have BX : Below w.heap.size w X := (al3 hX).1
  have zX := (al3 hX).2
  have qX0 := (al3_0 hX).2.1
  have lX0 := (al3_0 hX).1
  have HMX : Hid (Blk X (w.heap.size + 1) 50 #[.int .i64 xw, .int .i64 xr, .int .i64 xc, .int .i64 xs, .int .i64 xo, .int .i64 xl, .int .i64 xh, .int .i64 (k : Int), .int .i64 m1, .int .i64 m2, .int .i64 (r : Int), .int .i64 m4, .int .i64 m5, .int .i64 m6]) := by
    rw [← hX]
    have := Blk.new (w.alloc (.cells #[.int .i64 ir, .int .i64 glo, .int .i64 ghi, .slice Ar nr cr, .slice Ad nd cd, .int .i64 wrg] 27)) 50 #[.int .i64 xw, .int .i64 xr, .int .i64 xc, .int .i64 xs, .int .i64 xo, .int .i64 xl, .int .i64 xh, .int .i64 (k : Int), .int .i64 m1, .int .i64 m2, .int .i64 (r : Int), .int .i64 m4, .int .i64 m5, .int .i64 m6]
    rw [World.size_alloc] at this
    exact Lib.hid (this.alloc _)
  have HRX : Hid (Blk X (w.heap.size + 1 + 1) 27 #[.int .i64 0, .int .i64 0, .int .i64 0, .slice none 0 0, .slice none 0 0, .int .i64 0]) := by
    rw [← hX]
    have := Blk.new ((w.alloc (.cells #[.int .i64 ir, .int .i64 glo, .int .i64 ghi, .slice Ar nr cr, .slice Ad nd cd, .int .i64 wrg] 27)).alloc (.cells #[.int .i64 xw, .int .i64 xr, .int .i64 xc, .int .i64 xs, .int .i64 xo, .int .i64 xl, .int .i64 xh, .int .i64 (k : Int), .int .i64 m1, .int .i64 m2, .int .i64 (r : Int), .int .i64 m4, .int .i64 m5, .int .i64 m6] 50)) 27 #[.int .i64 0, .int .i64 0, .int .i64 0, .slice none 0 0, .slice none 0 0, .int .i64 0]
    simp only [World.size_alloc] at this
    exact Lib.hid this
  have ZX := Lib.hid zX
  clear hX zX
  go_upto_region 2 with (go_at_call 11; refine (HCP.out X BX).mono ?_; (rintro e w1 ⟨A1, k1, A2, k2, rfl, hO, hb1⟩); (have z1 := hb1.size); (have HM1 := Lib.hid (HMX.out.below hb1 HMX.out.lt)); (have HR1 := Lib.hid (HRX.out.below hb1 HRX.out.lt)); (have B1 := BX.trans (hb1.mono BX.size)); (have HO1 := Lib.hid hO); clear hb1 hO qX0 lX0)
  go_name_world Y hY
  have bY : Below w1.heap.size w1 Y := (al1 hY).1
  have HOY := Lib.hid (HO1.out.later bY)
  have HMY := Lib.hid (HM1.out.below bY HM1.out.lt)
  have HRY := Lib.hid (HR1.out.below bY HR1.out.lt)
  have BWY := B1.trans (bY.mono B1.size)
  have HBY : Hid (Blk Y w1.heap.size 27 #[.int .i64 ir, .int .i64 glo, .int .i64 ghi, .slice A1 nr k1, .slice A2 nd k2, .int .i64 wrg]) := by rw [← hY]; exact Lib.hid (Blk.new _ _ _)
  have HOL : Hid (∀ k, ((Value.slice A1 nr k1).ownBlock = some k ∨ (Value.slice A2 nd k2).ownBlock = some k) → X.heap.size ≤ k ∧ k ≠ w1.heap.size) := Lib.hid (fun k h => by have := HO1.out.blocks k h; omega)
  have hX2 : w.heap.size + 1 + 1 < X.heap.size := by have := ZX.out; omega
  have hw1 : X.heap.size ≤ w1.heap.size := z1
  have kY := HBY.out.cell
  have gY := HMY.out.cell
  have lY := HBY.out.lt
  have mY := HMY.out.lt
  clear hY bY HM1 HR1
  obtain ⟨g, k2', e2, hg0, hg1⟩ := HOY.out.hl.form (by omega)
  cases e2
  have HGN : Hid (w.heap.size ≤ g ∧ w1.heap.size ≠ g ∧ w.heap.size + 1 ≠ g ∧ w.heap.size + 1 + 1 ≠ g) := Lib.hid (by have := (HOL.out g (.inr rfl)).2; omega)
  clear hg0 hg1
  go_upto_region 3 with (fail)
  clear kY gY lY mY
  have Y1 := VA1.out
  have kZ := HBY.out.cell
  have gZ := HMY.out.cell
  have lZ := HBY.out.lt
  have mZ := HMY.out.lt
  obtain ⟨c0, c1, c2, c3, c4, c5, c6, fz, lg⟩ := HOY.out.reC HDL.out HK.out
  rw [HE0.out] at c0 c1 c2 c3 c4 c5 c6
  simp only at c0 c1 c2 c3 c4 c5 c6
  go_upto_region 3 with (fail)
  have hS : (∀ j, Y.drew.cell? ⟨w1.heap.size, j, none⟩ = #[Value.int .i64 ir, .int .i64 glo, .int .i64 ghi, .slice A1 nr k1, .slice (some ⟨g, 0, none⟩) nd k2, .int .i64 wrg][j]?) ∧ (∀ j, Y.drew.cell? ⟨w.heap.size + 1, j, none⟩ = #[Value.int .i64 xw, .int .i64 xr, .int .i64 xc, .int .i64 xs, .int .i64 xo, .int .i64 xl, .int .i64 xh, .int .i64 (k : Int), .int .i64 m1, .int .i64 m2, .int .i64 (r : Int), .int .i64 m4, .int .i64 m5, .int .i64 m6][j]?) ∧ Y.drew.cell? ⟨g, k * 7 + 4, none⟩ = some (.int .i64 qo) := ⟨fun j => kZ j, fun j => gZ j, c4⟩
  refine wp_region_L (by kernel_rfl) (fun W' => (∀ j, W'.cell? ⟨w1.heap.size, j, none⟩ = #[Value.int .i64 ir, .int .i64 glo, .int .i64 ghi, .slice A1 nr k1, .slice (some ⟨g, 0, none⟩) nd k2, .int .i64 wrg][j]?) ∧ (∀ j, W'.cell? ⟨w.heap.size + 1, j, none⟩ = #[Value.int .i64 xw, .int .i64 xr, .int .i64 xc, .int .i64 xs, .int .i64 xo, .int .i64 xl, .int .i64 xh, .int .i64 (k : Int), .int .i64 m1, .int .i64 m2, .int .i64 (r : Int), .int .i64 m4, .int .i64 m5, .int .i64 m6][j]?) ∧ W'.cell? ⟨g, k * 7 + 4, none⟩ = some (.int .i64 qo)) 12 ?_
  refine wpAnyL_take (i := 0) (v := ?_) rfl (by kernel_rfl) (by kernel_rfl) (by kernel_rfl) (by kernel_rfl) (fun _ _ _ h => h) hS (Or.inl ⟨by rfl, ?_⟩) ?_
  rotate_left 1
  · intro w9 hw9
    obtain ⟨s0, s1, s2⟩ := hw9
    go_simp
    try with_reducible rfl
  try simp only [List.getElem_toArray, List.getElem_cons_zero, Act.put, List.setIfInBounds_toArray, List.set_cons_zero, List.set_cons_succ]
  refine wpAnyL_take (i := 1) (v := ?_) rfl (by kernel_rfl) (by kernel_rfl) (by kernel_rfl) (by kernel_rfl) (fun _ _ _ h => h) hS (Or.inl ⟨by rfl, ?_⟩) ?_
  rotate_left 1
  · intro w9 hw9
    obtain ⟨s0, s1, s2⟩ := hw9
    go_simp
    try with_reducible rfl
  try simp only [List.getElem_toArray, List.getElem_cons_zero, List.getElem_cons_succ, Act.put, List.setIfInBounds_toArray, List.set_cons_zero, List.set_cons_succ]
  refine wpAnyL_take (i := 2) (v := ?_) rfl (by kernel_rfl) (by kernel_rfl) (by kernel_rfl) (by kernel_rfl) (fun _ _ _ h => h) hS (Or.inl ⟨by rfl, ?_⟩) ?_
  rotate_left 1
  · intro w9 hw9
    obtain ⟨s0, s1, s2⟩ := hw9
    go_simp
    try with_reducible rfl
  try simp only [List.getElem_toArray, List.getElem_cons_zero, List.getElem_cons_succ, Act.put, List.setIfInBounds_toArray, List.set_cons_zero, List.set_cons_succ]
  refine wpAnyL_take (i := 3) (v := ?_) rfl (by kernel_rfl) (by kernel_rfl) (by kernel_rfl) (by kernel_rfl) (fun _ _ _ h => h) hS (Or.inl ⟨by rfl, ?_⟩) ?_
  rotate_left 1
  · intro w9 hw9
    obtain ⟨s0, s1, s2⟩ := hw9
    go_simp
    try with_reducible rfl
  try simp only [List.getElem_toArray, List.getElem_cons_zero, List.getElem_cons_succ, Act.put, List.setIfInBounds_toArray, List.set_cons_zero, List.set_cons_succ]
  refine wpAnyL_take (i := 4) (v := ?_) rfl (by kernel_rfl) (by kernel_rfl) (by kernel_rfl) (by kernel_rfl) (fun _ _ _ h => h) hS (Or.inl ⟨by rfl, ?_⟩) ?_
  rotate_left 1
  · intro w9 hw9
    obtain ⟨s0, s1, s2⟩ := hw9
    go_simp
    try with_reducible rfl
  try simp only [List.getElem_toArray, List.getElem_cons_zero, List.getElem_cons_succ, Act.put, List.setIfInBounds_toArray, List.set_cons_zero, List.set_cons_succ]
  refine wpAnyL_take (i := 5) (v := ?_) rfl (by kernel_rfl) (by kernel_rfl) (by kernel_rfl) (by kernel_rfl) (fun _ _ _ h => h) hS (Or.inl ⟨by rfl, ?_⟩) ?_
  rotate_left 1
  · intro w9 hw9
    obtain ⟨s0, s1, s2⟩ := hw9
    go_simp
    try with_reducible rfl
  try simp only [List.getElem_toArray, List.getElem_cons_zero, List.getElem_cons_succ, Act.put, List.setIfInBounds_toArray, List.set_cons_zero, List.set_cons_succ]
  refine wpAnyL_take (i := 6) (v := ?_) rfl (by kernel_rfl) (by kernel_rfl) (by kernel_rfl) (by kernel_rfl) (fun _ _ _ h => h) hS (Or.inl ⟨by rfl, ?_⟩) ?_
  rotate_left 1
  · intro w9 hw9
    obtain ⟨s0, s1, s2⟩ := hw9
    go_simp
    try with_reducible rfl
  try simp only [List.getElem_toArray, List.getElem_cons_zero, List.getElem_cons_succ, Act.put, List.setIfInBounds_toArray, List.set_cons_zero, List.set_cons_succ]
  refine wpAnyL_take (i := 7) (v := ?_) rfl (by kernel_rfl) (by kernel_rfl) (by kernel_rfl) (by kernel_rfl) (fun _ _ _ h => h) hS (Or.inl ⟨by rfl, ?_⟩) ?_
  rotate_left 1
  · intro w9 hw9
    obtain ⟨s0, s1, s2⟩ := hw9
    go_simp
    try with_reducible rfl
  try simp only [List.getElem_toArray, List.getElem_cons_zero, List.getElem_cons_succ, Act.put, List.setIfInBounds_toArray, List.set_cons_zero, List.set_cons_succ]
  refine wpAnyL_take (i := 8) (v := ?_) rfl (by kernel_rfl) (by kernel_rfl) (by kernel_rfl) (by kernel_rfl) (fun _ _ _ h => h) hS (Or.inl ⟨by rfl, ?_⟩) ?_
  rotate_left 1
  · intro w9 hw9
    obtain ⟨s0, s1, s2⟩ := hw9
    go_simp
    try with_reducible rfl
  try simp only [List.getElem_toArray, List.getElem_cons_zero, List.getElem_cons_succ, Act.put, List.setIfInBounds_toArray, List.set_cons_zero, List.set_cons_succ]
  refine wpAnyL_take (i := 9) (v := ?_) rfl (by kernel_rfl) (by kernel_rfl) (by kernel_rfl) (by kernel_rfl) (fun _ _ _ h => h) hS (Or.inl ⟨by rfl, ?_⟩) ?_
  rotate_left 1
  · intro w9 hw9
    obtain ⟨s0, s1, s2⟩ := hw9
    go_simp
    try with_reducible rfl
  try simp only [List.getElem_toArray, List.getElem_cons_zero, List.getElem_cons_succ, Act.put, List.setIfInBounds_toArray, List.set_cons_zero, List.set_cons_succ]
  refine wpAnyL_one (i := 10) (by kernel_rfl) rfl (fun K hK => ?_)
  go_simp
  refine hK.out _ _ (fun _ => hS) (fun hS' => ?_)
  clear hK K hS'
  try simp only [List.getElem_toArray, List.getElem_cons_zero, List.getElem_cons_succ, Act.put, List.setIfInBounds_toArray, List.set_cons_zero, List.set_cons_succ]
  refine wpAnyL_take (i := 11) (v := ?_) rfl (by kernel_rfl) (by kernel_rfl) (by kernel_rfl) (by kernel_rfl) (fun _ _ _ h => h) hS (Or.inl ⟨by rfl, ?_⟩) ?_
  rotate_left 1
  · intro w9 hw9
    obtain ⟨s0, s1, s2⟩ := hw9
    go_simp
    try with_reducible rfl
  try simp only [List.getElem_toArray, List.getElem_cons_zero, List.getElem_cons_succ, Act.put, List.setIfInBounds_toArray, List.set_cons_zero, List.set_cons_succ]
  refine wpAnyL_one (i := 12) (by kernel_rfl) rfl (fun K hK => ?_)
  go_simp
  refine hK.out _ _ (fun h => absurd rfl h) (fun hS' => ?_)
  refine wpAnyL_done (by kernel_rfl) ?_ _
  clear hS hK K hS'
  go_upto_region 4 with (fail)
  go_name_world Z1 hZ
  have HOZ1 := Lib.hid (by rw [← hZ]; exact PuOwn.setRe ⟨HOY.out.hp.drew, HOY.out.hl.drew, HOY.out.ne⟩ HDL.out HK.out (j := 4) (by omega) ⟨qw, qr, qc, qS, qo + m1, ql, qh⟩ _ (by rw [HE0.out]; rfl) : PuOwn X.heap.size A1 nr k1 (some ⟨g, 0, none⟩) nd k2 rods (res.set k ⟨qw, qr, qc, qS, qo + m1, ql, qh⟩) Z1)
  have HBZ1 := Lib.hid (by rw [← hZ]; exact HBY.out.drew.far (by show w1.heap.size ≠ g; exact HGN.out.2.1) _ : Blk Z1 w1.heap.size 27 #[Value.int .i64 ir, .int .i64 glo, .int .i64 ghi, .slice A1 nr k1, .slice (some ⟨g, 0, none⟩) nd k2, .int .i64 wrg])
  have HMZ1 := Lib.hid (by rw [← hZ]; exact HMY.out.drew.far (by show w.heap.size + 1 ≠ g; exact HGN.out.2.2.1) _ : Blk Z1 (w.heap.size + 1) 50 #[.int .i64 xw, .int .i64 xr, .int .i64 xc, .int .i64 xs, .int .i64 xo, .int .i64 xl, .int .i64 xh, .int .i64 (k : Int), .int .i64 m1, .int .i64 m2, .int .i64 (r : Int), .int .i64 m4, .int .i64 m5, .int .i64 m6])
  have HRZ1 := Lib.hid (by rw [← hZ]; exact HRY.out.drew.far (by show w.heap.size + 1 + 1 ≠ g; exact HGN.out.2.2.2) _ : Blk Z1 (w.heap.size + 1 + 1) 27 #[.int .i64 0, .int .i64 0, .int .i64 0, .slice none 0 0, .slice none 0 0, .int .i64 0])
  have BWZ1 : Below w.heap.size w Z1 := by rw [← hZ]; exact (Below.drew BWY).setCell (by show w.heap.size ≤ g; exact HGN.out.1) _
  clear hZ kZ gZ lZ mZ c0 c1 c2 c3 c4 c5 c6 fz lg
  have HDL1 := Lib.hid ((List.length_set ..).trans HDL.out : (res.set k ⟨qw, qr, qc, qS, qo + m1, ql, qh⟩).length = nd)
  have HE1 := Lib.hid (by rw [reAt_set (by rw [HDL.out]; exact HK.out), if_pos rfl] : reAt (res.set k ⟨qw, qr, qc, qS, qo + m1, ql, qh⟩) k = ⟨qw, qr, qc, qS, qo + m1, ql, qh⟩)
  clear Y1
  have Y2 := VA2.out
  have kZ := HBZ1.out.cell
  have gZ := HMZ1.out.cell
  have lZ := HBZ1.out.lt
  have mZ := HMZ1.out.lt
  obtain ⟨c0, c1, c2, c3, c4, c5, c6, fz, lg⟩ := HOZ1.out.reC HDL1.out HK.out
  rw [HE1.out] at c0 c1 c2 c3 c4 c5 c6
  simp only at c0 c1 c2 c3 c4 c5 c6
  go_upto_region 4 with (fail)
  have hS : (∀ j, Z1.drew.cell? ⟨w1.heap.size, j, none⟩ = #[Value.int .i64 ir, .int .i64 glo, .int .i64 ghi, .slice A1 nr k1, .slice (some ⟨g, 0, none⟩) nd k2, .int .i64 wrg][j]?) ∧ (∀ j, Z1.drew.cell? ⟨w.heap.size + 1, j, none⟩ = #[Value.int .i64 xw, .int .i64 xr, .int .i64 xc, .int .i64 xs, .int .i64 xo, .int .i64 xl, .int .i64 xh, .int .i64 (k : Int), .int .i64 m1, .int .i64 m2, .int .i64 (r : Int), .int .i64 m4, .int .i64 m5, .int .i64 m6][j]?) ∧ Z1.drew.cell? ⟨g, k * 7 + 5, none⟩ = some (.int .i64 ql) := ⟨fun j => kZ j, fun j => gZ j, c5⟩
  refine wp_region_L (by kernel_rfl) (fun W' => (∀ j, W'.cell? ⟨w1.heap.size, j, none⟩ = #[Value.int .i64 ir, .int .i64 glo, .int .i64 ghi, .slice A1 nr k1, .slice (some ⟨g, 0, none⟩) nd k2, .int .i64 wrg][j]?) ∧ (∀ j, W'.cell? ⟨w.heap.size + 1, j, none⟩ = #[Value.int .i64 xw, .int .i64 xr, .int .i64 xc, .int .i64 xs, .int .i64 xo, .int .i64 xl, .int .i64 xh, .int .i64 (k : Int), .int .i64 m1, .int .i64 m2, .int .i64 (r : Int), .int .i64 m4, .int .i64 m5, .int .i64 m6][j]?) ∧ W'.cell? ⟨g, k * 7 + 5, none⟩ = some (.int .i64 ql)) 14 ?_
  refine wpAnyL_take (i := 0) (v := ?_) rfl (by kernel_rfl) (by kernel_rfl) (by kernel_rfl) (by kernel_rfl) (fun _ _ _ h => h) hS (Or.inl ⟨by rfl, ?_⟩) ?_
  rotate_left 1
  · intro w9 hw9
    obtain ⟨s0, s1, s2⟩ := hw9
    go_simp
    try with_reducible rfl
  try simp only [List.getElem_toArray, List.getElem_cons_zero, Act.put, List.setIfInBounds_toArray, List.set_cons_zero, List.set_cons_succ]
  refine wpAnyL_take (i := 1) (v := ?_) rfl (by kernel_rfl) (by kernel_rfl) (by kernel_rfl) (by kernel_rfl) (fun _ _ _ h => h) hS (Or.inl ⟨by rfl, ?_⟩) ?_
  rotate_left 1
  · intro w9 hw9
    obtain ⟨s0, s1, s2⟩ := hw9
    go_simp
    try with_reducible rfl
  try simp only [List.getElem_toArray, List.getElem_cons_zero, List.getElem_cons_succ, Act.put, List.setIfInBounds_toArray, List.set_cons_zero, List.set_cons_succ]
  refine wpAnyL_take (i := 2) (v := ?_) rfl (by kernel_rfl) (by kernel_rfl) (by kernel_rfl) (by kernel_rfl) (fun _ _ _ h => h) hS (Or.inl ⟨by rfl, ?_⟩) ?_
  rotate_left 1
  · intro w9 hw9
    obtain ⟨s0, s1, s2⟩ := hw9
    go_simp
    try with_reducible rfl
  try simp only [List.getElem_toArray, List.getElem_cons_zero, List.getElem_cons_succ, Act.put, List.setIfInBounds_toArray, List.set_cons_zero, List.set_cons_succ]
  refine wpAnyL_take (i := 3) (v := ?_) rfl (by kernel_rfl) (by kernel_rfl) (by kernel_rfl) (by kernel_rfl) (fun _ _ _ h => h) hS (Or.inl ⟨by rfl, ?_⟩) ?_
  rotate_left 1
  · intro w9 hw9
    obtain ⟨s0, s1, s2⟩ := hw9
    go_simp
    try with_reducible rfl
  try simp only [List.getElem_toArray, List.getElem_cons_zero, List.getElem_cons_succ, Act.put, List.setIfInBounds_toArray, List.set_cons_zero, List.set_cons_succ]
  refine wpAnyL_take (i := 4) (v := ?_) rfl (by kernel_rfl) (by kernel_rfl) (by kernel_rfl) (by kernel_rfl) (fun _ _ _ h => h) hS (Or.inl ⟨by rfl, ?_⟩) ?_
  rotate_left 1
  · intro w9 hw9
    obtain ⟨s0, s1, s2⟩ := hw9
    go_simp
    try with_reducible rfl
  try simp only [List.getElem_toArray, List.getElem_cons_zero, List.getElem_cons_succ, Act.put, List.setIfInBounds_toArray, List.set_cons_zero, List.set_cons_succ]
  refine wpAnyL_take (i := 5) (v := ?_) rfl (by kernel_rfl) (by kernel_rfl) (by kernel_rfl) (by kernel_rfl) (fun _ _ _ h => h) hS (Or.inl ⟨by rfl, ?_⟩) ?_
  rotate_left 1
  · intro w9 hw9
    obtain ⟨s0, s1, s2⟩ := hw9
    go_simp
    try with_reducible rfl
  try simp only [List.getElem_toArray, List.getElem_cons_zero, List.getElem_cons_succ, Act.put, List.setIfInBounds_toArray, List.set_cons_zero, List.set_cons_succ]
  refine wpAnyL_take (i := 6) (v := ?_) rfl (by kernel_rfl) (by kernel_rfl) (by kernel_rfl) (by kernel_rfl) (fun _ _ _ h => h) hS (Or.inl ⟨by rfl, ?_⟩) ?_
  rotate_left 1
  · intro w9 hw9
    obtain ⟨s0, s1, s2⟩ := hw9
    go_simp
    try with_reducible rfl
  try simp only [List.getElem_toArray, List.getElem_cons_zero, List.getElem_cons_succ, Act.put, List.setIfInBounds_toArray, List.set_cons_zero, List.set_cons_succ]
  refine wpAnyL_take (i := 7) (v := ?_) rfl (by kernel_rfl) (by kernel_rfl) (by kernel_rfl) (by kernel_rfl) (fun _ _ _ h => h) hS (Or.inl ⟨by rfl, ?_⟩) ?_
  rotate_left 1
  · intro w9 hw9
    obtain ⟨s0, s1, s2⟩ := hw9
    go_simp
    try with_reducible rfl
  try simp only [List.getElem_toArray, List.getElem_cons_zero, List.getElem_cons_succ, Act.put, List.setIfInBounds_toArray, List.set_cons_zero, List.set_cons_succ]
  refine wpAnyL_take (i := 8) (v := ?_) rfl (by kernel_rfl) (by kernel_rfl) (by kernel_rfl) (by kernel_rfl) (fun _ _ _ h => h) hS (Or.inl ⟨by rfl, ?_⟩) ?_
  rotate_left 1
  · intro w9 hw9
    obtain ⟨s0, s1, s2⟩ := hw9
    go_simp
    try with_reducible rfl
  try simp only [List.getElem_toArray, List.getElem_cons_zero, List.getElem_cons_succ, Act.put, List.setIfInBounds_toArray, List.set_cons_zero, List.set_cons_succ]
  refine wpAnyL_take (i := 9) (v := ?_) rfl (by kernel_rfl) (by kernel_rfl) (by kernel_rfl) (by kernel_rfl) (fun _ _ _ h => h) hS (Or.inl ⟨by rfl, ?_⟩) ?_
  rotate_left 1
  · intro w9 hw9
    obtain ⟨s0, s1, s2⟩ := hw9
    go_simp
    try with_reducible rfl
  try simp only [List.getElem_toArray, List.getElem_cons_zero, List.getElem_cons_succ, Act.put, List.setIfInBounds_toArray, List.set_cons_zero, List.set_cons_succ]
  refine wpAnyL_take (i := 10) (v := ?_) rfl (by kernel_rfl) (by kernel_rfl) (by kernel_rfl) (by kernel_rfl) (fun _ _ _ h => h) hS (Or.inl ⟨by rfl, ?_⟩) ?_
  rotate_left 1
  · intro w9 hw9
    obtain ⟨s0, s1, s2⟩ := hw9
    go_simp
    try with_reducible rfl
  try simp only [List.getElem_toArray, List.getElem_cons_zero, List.getElem_cons_succ, Act.put, List.setIfInBounds_toArray, List.set_cons_zero, List.set_cons_succ]
  refine wpAnyL_one (i := 11) (by kernel_rfl) rfl (fun K hK => ?_)
  go_simp
  refine hK.out _ _ (fun _ => hS) (fun hS' => ?_)
  clear hK K hS'
  try simp only [List.getElem_toArray, List.getElem_cons_zero, List.getElem_cons_succ, Act.put, List.setIfInBounds_toArray, List.set_cons_zero, List.set_cons_succ]
  refine wpAnyL_one (i := 12) (by kernel_rfl) rfl (fun K hK => ?_)
  go_simp
  refine hK.out _ _ (fun _ => hS) (fun hS' => ?_)
  clear hK K hS'
  try simp only [List.getElem_toArray, List.getElem_cons_zero, List.getElem_cons_succ, Act.put, List.setIfInBounds_toArray, List.set_cons_zero, List.set_cons_succ]
  refine wpAnyL_take (i := 13) (v := ?_) rfl (by kernel_rfl) (by kernel_rfl) (by kernel_rfl) (by kernel_rfl) (fun _ _ _ h => h) hS (Or.inl ⟨by rfl, ?_⟩) ?_
  rotate_left 1
  · intro w9 hw9
    obtain ⟨s0, s1, s2⟩ := hw9
    go_simp
    try with_reducible rfl
  try simp only [List.getElem_toArray, List.getElem_cons_zero, List.getElem_cons_succ, Act.put, List.setIfInBounds_toArray, List.set_cons_zero, List.set_cons_succ]
  refine wpAnyL_one (i := 14) (by kernel_rfl) rfl (fun K hK => ?_)
  go_simp
  refine hK.out _ _ (fun h => absurd rfl h) (fun hS' => ?_)
  refine wpAnyL_done (by kernel_rfl) ?_ _
  clear hS hK K hS'
  go_upto_region 5 with (fail)
  go_name_world Z2 hZ
  have HOZ2 := Lib.hid (by rw [← hZ]; exact PuOwn.setRe ⟨HOZ1.out.hp.drew, HOZ1.out.hl.drew, HOZ1.out.ne⟩ HDL1.out HK.out (j := 5) (by omega) ⟨qw, qr, qc, qS, qo + m1, ql - m2, qh⟩ _ (by rw [HE1.out]; rfl) : PuOwn X.heap.size A1 nr k1 (some ⟨g, 0, none⟩) nd k2 rods ((res.set k ⟨qw, qr, qc, qS, qo + m1, ql, qh⟩).set k ⟨qw, qr, qc, qS, qo + m1, ql - m2, qh⟩) Z2)
  have HBZ2 := Lib.hid (by rw [← hZ]; exact HBZ1.out.drew.far (by show w1.heap.size ≠ g; exact HGN.out.2.1) _ : Blk Z2 w1.heap.size 27 #[Value.int .i64 ir, .int .i64 glo, .int .i64 ghi, .slice A1 nr k1, .slice (some ⟨g, 0, none⟩) nd k2, .int .i64 wrg])
  have HMZ2 := Lib.hid (by rw [← hZ]; exact HMZ1.out.drew.far (by show w.heap.size + 1 ≠ g; exact HGN.out.2.2.1) _ : Blk Z2 (w.heap.size + 1) 50 #[.int .i64 xw, .int .i64 xr, .int .i64 xc, .int .i64 xs, .int .i64 xo, .int .i64 xl, .int .i64 xh, .int .i64 (k : Int), .int .i64 m1, .int .i64 m2, .int .i64 (r : Int), .int .i64 m4, .int .i64 m5, .int .i64 m6])
  have HRZ2 := Lib.hid (by rw [← hZ]; exact HRZ1.out.drew.far (by show w.heap.size + 1 + 1 ≠ g; exact HGN.out.2.2.2) _ : Blk Z2 (w.heap.size + 1 + 1) 27 #[.int .i64 0, .int .i64 0, .int .i64 0, .slice none 0 0, .slice none 0 0, .int .i64 0])
  have BWZ2 : Below w.heap.size w Z2 := by rw [← hZ]; exact (Below.drew BWZ1).setCell (by show w.heap.size ≤ g; exact HGN.out.1) _
  clear hZ kZ gZ lZ mZ c0 c1 c2 c3 c4 c5 c6 fz lg
  have HDL2 := Lib.hid ((List.length_set ..).trans HDL1.out : ((res.set k ⟨qw, qr, qc, qS, qo + m1, ql, qh⟩).set k ⟨qw, qr, qc, qS, qo + m1, ql - m2, qh⟩).length = nd)
  have HE2 := Lib.hid (by rw [reAt_set (by rw [HDL1.out]; exact HK.out), if_pos rfl] : reAt ((res.set k ⟨qw, qr, qc, qS, qo + m1, ql, qh⟩).set k ⟨qw, qr, qc, qS, qo + m1, ql - m2, qh⟩) k = ⟨qw, qr, qc, qS, qo + m1, ql - m2, qh⟩)
  clear Y2
  have Y3 := VA3.out
  have kZ := HBZ2.out.cell
  have gZ := HMZ2.out.cell
  have lZ := HBZ2.out.lt
  have mZ := HMZ2.out.lt
  obtain ⟨c0, c1, c2, c3, c4, c5, c6, fz, lg⟩ := HOZ2.out.reC HDL2.out HK.out
  rw [HE2.out] at c0 c1 c2 c3 c4 c5 c6
  simp only at c0 c1 c2 c3 c4 c5 c6
  go_upto_region 5 with (fail)
  have hS : (∀ j, Z2.drew.cell? ⟨w1.heap.size, j, none⟩ = #[Value.int .i64 ir, .int .i64 glo, .int .i64 ghi, .slice A1 nr k1, .slice (some ⟨g, 0, none⟩) nd k2, .int .i64 wrg][j]?) ∧ (∀ j, Z2.drew.cell? ⟨w.heap.size + 1, j, none⟩ = #[Value.int .i64 xw, .int .i64 xr, .int .i64 xc, .int .i64 xs, .int .i64 xo, .int .i64 xl, .int .i64 xh, .int .i64 (k : Int), .int .i64 m1, .int .i64 m2, .int .i64 (r : Int), .int .i64 m4, .int .i64 m5, .int .i64 m6][j]?) ∧ Z2.drew.cell? ⟨g, k * 7 + 6, none⟩ = some (.int .i64 qh) := ⟨fun j => kZ j, fun j => gZ j, c6⟩
  refine wp_region_L (by kernel_rfl) (fun W' => (∀ j, W'.cell? ⟨w1.heap.size, j, none⟩ = #[Value.int .i64 ir, .int .i64 glo, .int .i64 ghi, .slice A1 nr k1, .slice (some ⟨g, 0, none⟩) nd k2, .int .i64 wrg][j]?) ∧ (∀ j, W'.cell? ⟨w.heap.size + 1, j, none⟩ = #[Value.int .i64 xw, .int .i64 xr, .int .i64 xc, .int .i64 xs, .int .i64 xo, .int .i64 xl, .int .i64 xh, .int .i64 (k : Int), .int .i64 m1, .int .i64 m2, .int .i64 (r : Int), .int .i64 m4, .int .i64 m5, .int .i64 m6][j]?) ∧ W'.cell? ⟨g, k * 7 + 6, none⟩ = some (.int .i64 qh)) 14 ?_
  refine wpAnyL_take (i := 0) (v := ?_) rfl (by kernel_rfl) (by kernel_rfl) (by kernel_rfl) (by kernel_rfl) (fun _ _ _ h => h) hS (Or.inl ⟨by rfl, ?_⟩) ?_
  rotate_left 1
  · intro w9 hw9
    obtain ⟨s0, s1, s2⟩ := hw9
    go_simp
    try with_reducible rfl
  try simp only [List.getElem_toArray, List.getElem_cons_zero, Act.put, List.setIfInBounds_toArray, List.set_cons_zero, List.set_cons_succ]
  refine wpAnyL_take (i := 1) (v := ?_) rfl (by kernel_rfl) (by kernel_rfl) (by kernel_rfl) (by kernel_rfl) (fun _ _ _ h => h) hS (Or.inl ⟨by rfl, ?_⟩) ?_
  rotate_left 1
  · intro w9 hw9
    obtain ⟨s0, s1, s2⟩ := hw9
    go_simp
    try with_reducible rfl
  try simp only [List.getElem_toArray, List.getElem_cons_zero, List.getElem_cons_succ, Act.put, List.setIfInBounds_toArray, List.set_cons_zero, List.set_cons_succ]
  refine wpAnyL_take (i := 2) (v := ?_) rfl (by kernel_rfl) (by kernel_rfl) (by kernel_rfl) (by kernel_rfl) (fun _ _ _ h => h) hS (Or.inl ⟨by rfl, ?_⟩) ?_
  rotate_left 1
  · intro w9 hw9
    obtain ⟨s0, s1, s2⟩ := hw9
    go_simp
    try with_reducible rfl
  try simp only [List.getElem_toArray, List.getElem_cons_zero, List.getElem_cons_succ, Act.put, List.setIfInBounds_toArray, List.set_cons_zero, List.set_cons_succ]
  refine wpAnyL_take (i := 3) (v := ?_) rfl (by kernel_rfl) (by kernel_rfl) (by kernel_rfl) (by kernel_rfl) (fun _ _ _ h => h) hS (Or.inl ⟨by rfl, ?_⟩) ?_
  rotate_left 1
  · intro w9 hw9
    obtain ⟨s0, s1, s2⟩ := hw9
    go_simp
    try with_reducible rfl
  try simp only [List.getElem_toArray, List.getElem_cons_zero, List.getElem_cons_succ, Act.put, List.setIfInBounds_toArray, List.set_cons_zero, List.set_cons_succ]
  refine wpAnyL_take (i := 4) (v := ?_) rfl (by kernel_rfl) (by kernel_rfl) (by kernel_rfl) (by kernel_rfl) (fun _ _ _ h => h) hS (Or.inl ⟨by rfl, ?_⟩) ?_
  rotate_left 1
  · intro w9 hw9
    obtain ⟨s0, s1, s2⟩ := hw9
    go_simp
    try with_reducible rfl
  try simp only [List.getElem_toArray, List.getElem_cons_zero, List.getElem_cons_succ, Act.put, List.setIfInBounds_toArray, List.set_cons_zero, List.set_cons_succ]
  refine wpAnyL_take (i := 5) (v := ?_) rfl (by kernel_rfl) (by kernel_rfl) (by kernel_rfl) (by kernel_rfl) (fun _ _ _ h => h) hS (Or.inl ⟨by rfl, ?_⟩) ?_
  rotate_left 1
  · intro w9 hw9
    obtain ⟨s0, s1, s2⟩ := hw9
    go_simp
    try with_reducible rfl
  try simp only [List.getElem_toArray, List.getElem_cons_zero, List.getElem_cons_succ, Act.put, List.setIfInBounds_toArray, List.set_cons_zero, List.set_cons_succ]
  refine wpAnyL_take (i := 6) (v := ?_) rfl (by kernel_rfl) (by kernel_rfl) (by kernel_rfl) (by kernel_rfl) (fun _ _ _ h => h) hS (Or.inl ⟨by rfl, ?_⟩) ?_
  rotate_left 1
  · intro w9 hw9
    obtain ⟨s0, s1, s2⟩ := hw9
    go_simp
    try with_reducible rfl
  try simp only [List.getElem_toArray, List.getElem_cons_zero, List.getElem_cons_succ, Act.put, List.setIfInBounds_toArray, List.set_cons_zero, List.set_cons_succ]
  refine wpAnyL_take (i := 7) (v := ?_) rfl (by kernel_rfl) (by kernel_rfl) (by kernel_rfl) (by kernel_rfl) (fun _ _ _ h => h) hS (Or.inl ⟨by rfl, ?_⟩) ?_
  rotate_left 1
  · intro w9 hw9
    obtain ⟨s0, s1, s2⟩ := hw9
    go_simp
    try with_reducible rfl
  try simp only [List.getElem_toArray, List.getElem_cons_zero, List.getElem_cons_succ, Act.put, List.setIfInBounds_toArray, List.set_cons_zero, List.set_cons_succ]
  refine wpAnyL_take (i := 8) (v := ?_) rfl (by kernel_rfl) (by kernel_rfl) (by kernel_rfl) (by kernel_rfl) (fun _ _ _ h => h) hS (Or.inl ⟨by rfl, ?_⟩) ?_
  rotate_left 1
  · intro w9 hw9
    obtain ⟨s0, s1, s2⟩ := hw9
    go_simp
    try with_reducible rfl
  try simp only [List.getElem_toArray, List.getElem_cons_zero, List.getElem_cons_succ, Act.put, List.setIfInBounds_toArray, List.set_cons_zero, List.set_cons_succ]
  refine wpAnyL_take (i := 9) (v := ?_) rfl (by kernel_rfl) (by kernel_rfl) (by kernel_rfl) (by kernel_rfl) (fun _ _ _ h => h) hS (Or.inl ⟨by rfl, ?_⟩) ?_
  rotate_left 1
  · intro w9 hw9
    obtain ⟨s0, s1, s2⟩ := hw9
    go_simp
    try with_reducible rfl
  try simp only [List.getElem_toArray, List.getElem_cons_zero, List.getElem_cons_succ, Act.put, List.setIfInBounds_toArray, List.set_cons_zero, List.set_cons_succ]
  refine wpAnyL_take (i := 10) (v := ?_) rfl (by kernel_rfl) (by kernel_rfl) (by kernel_rfl) (by kernel_rfl) (fun _ _ _ h => h) hS (Or.inl ⟨by rfl, ?_⟩) ?_
  rotate_left 1
  · intro w9 hw9
    obtain ⟨s0, s1, s2⟩ := hw9
    go_simp
    try with_reducible rfl
  try simp only [List.getElem_toArray, List.getElem_cons_zero, List.getElem_cons_succ, Act.put, List.setIfInBounds_toArray, List.set_cons_zero, List.set_cons_succ]
  refine wpAnyL_one (i := 11) (by kernel_rfl) rfl (fun K hK => ?_)
  go_simp
  refine hK.out _ _ (fun _ => hS) (fun hS' => ?_)
  clear hK K hS'
  try simp only [List.getElem_toArray, List.getElem_cons_zero, List.getElem_cons_succ, Act.put, List.setIfInBounds_toArray, List.set_cons_zero, List.set_cons_succ]
  refine wpAnyL_one (i := 12) (by kernel_rfl) rfl (fun K hK => ?_)
  go_simp
  refine hK.out _ _ (fun _ => hS) (fun hS' => ?_)
  clear hK K hS'
  try simp only [List.getElem_toArray, List.getElem_cons_zero, List.getElem_cons_succ, Act.put, List.setIfInBounds_toArray, List.set_cons_zero, List.set_cons_succ]
  refine wpAnyL_take (i := 13) (v := ?_) rfl (by kernel_rfl) (by kernel_rfl) (by kernel_rfl) (by kernel_rfl) (fun _ _ _ h => h) hS (Or.inl ⟨by rfl, ?_⟩) ?_
  rotate_left 1
  · intro w9 hw9
    obtain ⟨s0, s1, s2⟩ := hw9
    go_simp
    try with_reducible rfl
  try simp only [List.getElem_toArray, List.getElem_cons_zero, List.getElem_cons_succ, Act.put, List.setIfInBounds_toArray, List.set_cons_zero, List.set_cons_succ]
  refine wpAnyL_one (i := 14) (by kernel_rfl) rfl (fun K hK => ?_)
  go_simp
  refine hK.out _ _ (fun h => absurd rfl h) (fun hS' => ?_)
  refine wpAnyL_done (by kernel_rfl) ?_ _
  clear hS hK K hS'
  go_upto_region 6 with (fail)
  go_name_world Z3 hZ
  have HOZ3 := Lib.hid (by rw [← hZ]; exact PuOwn.setRe ⟨HOZ2.out.hp.drew, HOZ2.out.hl.drew, HOZ2.out.ne⟩ HDL2.out HK.out (j := 6) (by omega) ⟨qw, qr, qc, qS, qo + m1, ql - m2, qh + m2⟩ _ (by rw [HE2.out]; rfl) : PuOwn X.heap.size A1 nr k1 (some ⟨g, 0, none⟩) nd k2 rods (((res.set k ⟨qw, qr, qc, qS, qo + m1, ql, qh⟩).set k ⟨qw, qr, qc, qS, qo + m1, ql - m2, qh⟩).set k ⟨qw, qr, qc, qS, qo + m1, ql - m2, qh + m2⟩) Z3)
  have HBZ3 := Lib.hid (by rw [← hZ]; exact HBZ2.out.drew.far (by show w1.heap.size ≠ g; exact HGN.out.2.1) _ : Blk Z3 w1.heap.size 27 #[Value.int .i64 ir, .int .i64 glo, .int .i64 ghi, .slice A1 nr k1, .slice (some ⟨g, 0, none⟩) nd k2, .int .i64 wrg])
  have HMZ3 := Lib.hid (by rw [← hZ]; exact HMZ2.out.drew.far (by show w.heap.size + 1 ≠ g; exact HGN.out.2.2.1) _ : Blk Z3 (w.heap.size + 1) 50 #[.int .i64 xw, .int .i64 xr, .int .i64 xc, .int .i64 xs, .int .i64 xo, .int .i64 xl, .int .i64 xh, .int .i64 (k : Int), .int .i64 m1, .int .i64 m2, .int .i64 (r : Int), .int .i64 m4, .int .i64 m5, .int .i64 m6])
  have HRZ3 := Lib.hid (by rw [← hZ]; exact HRZ2.out.drew.far (by show w.heap.size + 1 + 1 ≠ g; exact HGN.out.2.2.2) _ : Blk Z3 (w.heap.size + 1 + 1) 27 #[.int .i64 0, .int .i64 0, .int .i64 0, .slice none 0 0, .slice none 0 0, .int .i64 0])
  have BWZ3 : Below w.heap.size w Z3 := by rw [← hZ]; exact (Below.drew BWZ2).setCell (by show w.heap.size ≤ g; exact HGN.out.1) _
  clear hZ kZ gZ lZ mZ c0 c1 c2 c3 c4 c5 c6 fz lg
  clear Y3
  have HOZ := HOZ3
  rw [List.set_set, List.set_set] at HOZ
  clear HOZ3 HOZ1 HOZ2
  have HOZ3 := HOZ
  clear HOZ
  have kY := HBZ3.out.cell
  have gY := HMZ3.out.cell
  have lY := HBZ3.out.lt
  have mY := HMZ3.out.lt
  go_upto_region 7 with (go_at_call 54; refine (HIR.out A1 k1 (some ⟨g, 0, none⟩) k2 Z3).mono ?_; (rintro e w5 ⟨rfl, hb5⟩); (have HOw5 := Lib.hid (HOZ3.out.later hb5)); (have HBw5 := Lib.hid (HBZ3.out.below hb5 HBZ3.out.lt)); (have HMw5 := Lib.hid (HMZ3.out.below hb5 HMZ3.out.lt)); (have HRw5 := Lib.hid (HRZ3.out.below hb5 HRZ3.out.lt)); (have BWw5 := BWZ3.trans (hb5.mono BWZ3.size)); clear hb5 kY gY lY mY)
  clear HGN
  obtain ⟨gd, rfl⟩ : ∃ x, x = g := ⟨g, rfl⟩
  obtain ⟨g, k1', e1, hg0, hg1⟩ := HOw5.out.hp.form (by omega)
  cases e1
  have HGN : Hid (w.heap.size ≤ g ∧ w1.heap.size ≠ g ∧ w.heap.size + 1 ≠ g ∧ w.heap.size + 1 + 1 ≠ g) := Lib.hid (by have := (HOL.out g (.inl rfl)).2; omega)
  clear hg0 hg1
  have Y4 := VB.out
  have kZ := HBw5.out.cell
  have gZ := HMw5.out.cell
  have lZ := HBw5.out.lt
  have mZ := HMw5.out.lt
  obtain ⟨c0, c1, c2, fz, lg⟩ := HOw5.out.rodC HRL.out HKr.out
  rw [HF0.out] at c0 c1 c2
  simp only at c0 c1 c2
  go_upto_region 7 with (fail)
  have hS : (∀ j, w5.drew.cell? ⟨w1.heap.size, j, none⟩ = #[Value.int .i64 ir, .int .i64 glo, .int .i64 ghi, .slice (some ⟨g, 0, none⟩) nr k1, .slice (some ⟨gd, 0, none⟩) nd k2, .int .i64 wrg][j]?) ∧ (∀ j, w5.drew.cell? ⟨w.heap.size + 1, j, none⟩ = #[Value.int .i64 xw, .int .i64 xr, .int .i64 xc, .int .i64 xs, .int .i64 xo, .int .i64 xl, .int .i64 xh, .int .i64 (k : Int), .int .i64 m1, .int .i64 m2, .int .i64 (r : Int), .int .i64 m4, .int .i64 m5, .int .i64 m6][j]?) ∧ w5.drew.cell? ⟨g, r * 3 + 1, none⟩ = some (.int .i64 dw) := ⟨fun j => kZ j, fun j => gZ j, c1⟩
  refine wp_region_L (by kernel_rfl) (fun W' => (∀ j, W'.cell? ⟨w1.heap.size, j, none⟩ = #[Value.int .i64 ir, .int .i64 glo, .int .i64 ghi, .slice (some ⟨g, 0, none⟩) nr k1, .slice (some ⟨gd, 0, none⟩) nd k2, .int .i64 wrg][j]?) ∧ (∀ j, W'.cell? ⟨w.heap.size + 1, j, none⟩ = #[Value.int .i64 xw, .int .i64 xr, .int .i64 xc, .int .i64 xs, .int .i64 xo, .int .i64 xl, .int .i64 xh, .int .i64 (k : Int), .int .i64 m1, .int .i64 m2, .int .i64 (r : Int), .int .i64 m4, .int .i64 m5, .int .i64 m6][j]?) ∧ W'.cell? ⟨g, r * 3 + 1, none⟩ = some (.int .i64 dw)) 12 ?_
  refine wpAnyL_take (i := 0) (v := ?_) rfl (by kernel_rfl) (by kernel_rfl) (by kernel_rfl) (by kernel_rfl) (fun _ _ _ h => h) hS (Or.inl ⟨by rfl, ?_⟩) ?_
  rotate_left 1
  · intro w9 hw9
    obtain ⟨s0, s1, s2⟩ := hw9
    go_simp
    try with_reducible rfl
  try simp only [List.getElem_toArray, List.getElem_cons_zero, Act.put, List.setIfInBounds_toArray, List.set_cons_zero, List.set_cons_succ]
  refine wpAnyL_take (i := 1) (v := ?_) rfl (by kernel_rfl) (by kernel_rfl) (by kernel_rfl) (by kernel_rfl) (fun _ _ _ h => h) hS (Or.inl ⟨by rfl, ?_⟩) ?_
  rotate_left 1
  · intro w9 hw9
    obtain ⟨s0, s1, s2⟩ := hw9
    go_simp
    try with_reducible rfl
  try simp only [List.getElem_toArray, List.getElem_cons_zero, List.getElem_cons_succ, Act.put, List.setIfInBounds_toArray, List.set_cons_zero, List.set_cons_succ]
  refine wpAnyL_take (i := 2) (v := ?_) rfl (by kernel_rfl) (by kernel_rfl) (by kernel_rfl) (by kernel_rfl) (fun _ _ _ h => h) hS (Or.inl ⟨by rfl, ?_⟩) ?_
  rotate_left 1
  · intro w9 hw9
    obtain ⟨s0, s1, s2⟩ := hw9
    go_simp
    try with_reducible rfl
  try simp only [List.getElem_toArray, List.getElem_cons_zero, List.getElem_cons_succ, Act.put, List.setIfInBounds_toArray, List.set_cons_zero, List.set_cons_succ]
  refine wpAnyL_take (i := 3) (v := ?_) rfl (by kernel_rfl) (by kernel_rfl) (by kernel_rfl) (by kernel_rfl) (fun _ _ _ h => h) hS (Or.inl ⟨by rfl, ?_⟩) ?_
  rotate_left 1
  · intro w9 hw9
    obtain ⟨s0, s1, s2⟩ := hw9
    go_simp
    try with_reducible rfl
  try simp only [List.getElem_toArray, List.getElem_cons_zero, List.getElem_cons_succ, Act.put, List.setIfInBounds_toArray, List.set_cons_zero, List.set_cons_succ]
  refine wpAnyL_take (i := 4) (v := ?_) rfl (by kernel_rfl) (by kernel_rfl) (by kernel_rfl) (by kernel_rfl) (fun _ _ _ h => h) hS (Or.inl ⟨by rfl, ?_⟩) ?_
  rotate_left 1
  · intro w9 hw9
    obtain ⟨s0, s1, s2⟩ := hw9
    go_simp
    try with_reducible rfl
  try simp only [List.getElem_toArray, List.getElem_cons_zero, List.getElem_cons_succ, Act.put, List.setIfInBounds_toArray, List.set_cons_zero, List.set_cons_succ]
  refine wpAnyL_take (i := 5) (v := ?_) rfl (by kernel_rfl) (by kernel_rfl) (by kernel_rfl) (by kernel_rfl) (fun _ _ _ h => h) hS (Or.inl ⟨by rfl, ?_⟩) ?_
  rotate_left 1
  · intro w9 hw9
    obtain ⟨s0, s1, s2⟩ := hw9
    go_simp
    try with_reducible rfl
  try simp only [List.getElem_toArray, List.getElem_cons_zero, List.getElem_cons_succ, Act.put, List.setIfInBounds_toArray, List.set_cons_zero, List.set_cons_succ]
  refine wpAnyL_take (i := 6) (v := ?_) rfl (by kernel_rfl) (by kernel_rfl) (by kernel_rfl) (by kernel_rfl) (fun _ _ _ h => h) hS (Or.inl ⟨by rfl, ?_⟩) ?_
  rotate_left 1
  · intro w9 hw9
    obtain ⟨s0, s1, s2⟩ := hw9
    go_simp
    try with_reducible rfl
  try simp only [List.getElem_toArray, List.getElem_cons_zero, List.getElem_cons_succ, Act.put, List.setIfInBounds_toArray, List.set_cons_zero, List.set_cons_succ]
  refine wpAnyL_take (i := 7) (v := ?_) rfl (by kernel_rfl) (by kernel_rfl) (by kernel_rfl) (by kernel_rfl) (fun _ _ _ h => h) hS (Or.inl ⟨by rfl, ?_⟩) ?_
  rotate_left 1
  · intro w9 hw9
    obtain ⟨s0, s1, s2⟩ := hw9
    go_simp
    try with_reducible rfl
  try simp only [List.getElem_toArray, List.getElem_cons_zero, List.getElem_cons_succ, Act.put, List.setIfInBounds_toArray, List.set_cons_zero, List.set_cons_succ]
  refine wpAnyL_take (i := 8) (v := ?_) rfl (by kernel_rfl) (by kernel_rfl) (by kernel_rfl) (by kernel_rfl) (fun _ _ _ h => h) hS (Or.inl ⟨by rfl, ?_⟩) ?_
  rotate_left 1
  · intro w9 hw9
    obtain ⟨s0, s1, s2⟩ := hw9
    go_simp
    try with_reducible rfl
  try simp only [List.getElem_toArray, List.getElem_cons_zero, List.getElem_cons_succ, Act.put, List.setIfInBounds_toArray, List.set_cons_zero, List.set_cons_succ]
  refine wpAnyL_take (i := 9) (v := ?_) rfl (by kernel_rfl) (by kernel_rfl) (by kernel_rfl) (by kernel_rfl) (fun _ _ _ h => h) hS (Or.inl ⟨by rfl, ?_⟩) ?_
  rotate_left 1
  · intro w9 hw9
    obtain ⟨s0, s1, s2⟩ := hw9
    go_simp
    try with_reducible rfl
  try simp only [List.getElem_toArray, List.getElem_cons_zero, List.getElem_cons_succ, Act.put, List.setIfInBounds_toArray, List.set_cons_zero, List.set_cons_succ]
  refine wpAnyL_one (i := 10) (by kernel_rfl) rfl (fun K hK => ?_)
  go_simp
  refine hK.out _ _ (fun _ => hS) (fun hS' => ?_)
  clear hK K hS'
  try simp only [List.getElem_toArray, List.getElem_cons_zero, List.getElem_cons_succ, Act.put, List.setIfInBounds_toArray, List.set_cons_zero, List.set_cons_succ]
  refine wpAnyL_take (i := 11) (v := ?_) rfl (by kernel_rfl) (by kernel_rfl) (by kernel_rfl) (by kernel_rfl) (fun _ _ _ h => h) hS (Or.inl ⟨by rfl, ?_⟩) ?_
  rotate_left 1
  · intro w9 hw9
    obtain ⟨s0, s1, s2⟩ := hw9
    go_simp
    try with_reducible rfl
  try simp only [List.getElem_toArray, List.getElem_cons_zero, List.getElem_cons_succ, Act.put, List.setIfInBounds_toArray, List.set_cons_zero, List.set_cons_succ]
  refine wpAnyL_one (i := 12) (by kernel_rfl) rfl (fun K hK => ?_)
  go_simp
  refine hK.out _ _ (fun h => absurd rfl h) (fun hS' => ?_)
  refine wpAnyL_done (by kernel_rfl) ?_ _
  clear hS hK K hS'
  go_upto_region 8 with (fail)
  go_name_world Z4 hZ
  have HOZ4 := Lib.hid (by rw [← hZ]; exact PuOwn.setRod ⟨HOw5.out.hp.drew, HOw5.out.hl.drew, HOw5.out.ne⟩ HRL.out HKr.out (j := 1) (by omega) ⟨dl, dw + m4, dg⟩ _ (by rw [HF0.out]; rfl) : PuOwn X.heap.size (some ⟨g, 0, none⟩) nr k1 (some ⟨gd, 0, none⟩) nd k2 (rods.set r ⟨dl, dw + m4, dg⟩) (res.set k ⟨qw, qr, qc, qS, qo + m1, ql - m2, qh + m2⟩) Z4)
  have HBZ4 := Lib.hid (by rw [← hZ]; exact HBw5.out.drew.far (by show w1.heap.size ≠ g; exact HGN.out.2.1) _ : Blk Z4 w1.heap.size 27 #[Value.int .i64 ir, .int .i64 glo, .int .i64 ghi, .slice (some ⟨g, 0, none⟩) nr k1, .slice (some ⟨gd, 0, none⟩) nd k2, .int .i64 wrg])
  have HMZ4 := Lib.hid (by rw [← hZ]; exact HMw5.out.drew.far (by show w.heap.size + 1 ≠ g; exact HGN.out.2.2.1) _ : Blk Z4 (w.heap.size + 1) 50 #[.int .i64 xw, .int .i64 xr, .int .i64 xc, .int .i64 xs, .int .i64 xo, .int .i64 xl, .int .i64 xh, .int .i64 (k : Int), .int .i64 m1, .int .i64 m2, .int .i64 (r : Int), .int .i64 m4, .int .i64 m5, .int .i64 m6])
  have HRZ4 := Lib.hid (by rw [← hZ]; exact HRw5.out.drew.far (by show w.heap.size + 1 + 1 ≠ g; exact HGN.out.2.2.2) _ : Blk Z4 (w.heap.size + 1 + 1) 27 #[.int .i64 0, .int .i64 0, .int .i64 0, .slice none 0 0, .slice none 0 0, .int .i64 0])
  have BWZ4 : Below w.heap.size w Z4 := by rw [← hZ]; exact (Below.drew BWw5).setCell (by show w.heap.size ≤ g; exact HGN.out.1) _
  clear hZ kZ gZ lZ mZ c0 c1 c2 fz lg
  clear Y4
  have kZ := HBZ4.out.cell
  have gZ := HMZ4.out.cell
  have lZ := HBZ4.out.lt
  have mZ := HMZ4.out.lt
  have fZ := HBZ4.out.frozen
  have rZ := HRZ4.out.cell
  have uZ := HRZ4.out.frozen
  have nZ := HRZ4.out.lt
  go_upto_region 10 with (fail)
  go_name_world V hV
  have HBV := Lib.hid (by rw [← hV]; have h := ((HBZ4.out.set_ 5 (.int .i64 (wrg + m5))).set_ 1 (.int .i64 (glo - m6))).set_ 2 (.int .i64 (ghi + m6)); simpa using h : Blk V w1.heap.size 27 #[.int .i64 ir, .int .i64 (glo - m6), .int .i64 (ghi + m6), .slice (some ⟨g, 0, none⟩) nr k1, .slice (some ⟨gd, 0, none⟩) nd k2, .int .i64 (wrg + m5)])
  have HOV := Lib.hid (by rw [← hV]; exact ((HOZ4.out.far (p := ⟨w1.heap.size, 5, none⟩) _ (fun k h => (HOL.out k h).2)).far (p := ⟨w1.heap.size, 1, none⟩) _ (fun k h => (HOL.out k h).2)).far (p := ⟨w1.heap.size, 2, none⟩) _ (fun k h => (HOL.out k h).2) : PuOwn X.heap.size (some ⟨g, 0, none⟩) nr k1 (some ⟨gd, 0, none⟩) nd k2 (rods.set r ⟨dl, dw + m4, dg⟩) (res.set k ⟨qw, qr, qc, qS, qo + m1, ql - m2, qh + m2⟩) V)
  have hne : w.heap.size + 1 + 1 ≠ w1.heap.size := by omega
  have HRV := Lib.hid (by rw [← hV]; exact ((HRZ4.out.far (p := ⟨w1.heap.size, 5, none⟩) hne _).far (p := ⟨w1.heap.size, 1, none⟩) hne _).far (p := ⟨w1.heap.size, 2, none⟩) hne _ : Blk V (w.heap.size + 1 + 1) 27 #[.int .i64 0, .int .i64 0, .int .i64 0, .slice none 0 0, .slice none 0 0, .int .i64 0])
  have BWV : Below w.heap.size w V := by rw [← hV]; refine Below.setCell (Below.setCell (Below.setCell BWZ4 ?_ _) ?_ _) ?_ _ <;> (show w.heap.size ≤ w1.heap.size; omega)
  clear hV kZ gZ lZ mZ fZ rZ uZ nZ
  have kV := HBV.out.cell
  have lV := HBV.out.lt
  have rV := HRV.out.cell
  have uV := HRV.out.frozen
  have nV := HRV.out.lt
  go_wp2_with fail
  have hbF := (((((HRV.out.set_ 0 (.int .i64 ir)).set_ 1 (.int .i64 (glo - m6))).set_ 2 (.int .i64 (ghi + m6))).set_ 3 (.slice (some ⟨g, 0, none⟩) nr k1)).set_ 4 (.slice (some ⟨gd, 0, none⟩) nd k2)).set_ 5 (.int .i64 (wrg + m5))
  simp only [List.setIfInBounds_toArray, List.set_cons_zero, List.set_cons_succ] at hbF
  have hOF : ∀ (u0 u1 u2 u3 u4 u5 : Value), PuOwn X.heap.size (some ⟨g, 0, none⟩) nr k1 (some ⟨gd, 0, none⟩) nd k2 (rods.set r ⟨dl, dw + m4, dg⟩) (res.set k ⟨qw, qr, qc, qS, qo + m1, ql - m2, qh + m2⟩) ((((((V.setCell ⟨w.heap.size + 1 + 1, 0, none⟩ u0).setCell ⟨w.heap.size + 1 + 1, 1, none⟩ u1).setCell ⟨w.heap.size + 1 + 1, 2, none⟩ u2).setCell ⟨w.heap.size + 1 + 1, 3, none⟩ u3).setCell ⟨w.heap.size + 1 + 1, 4, none⟩ u4).setCell ⟨w.heap.size + 1 + 1, 5, none⟩ u5) := fun u0 u1 u2 u3 u4 u5 => by
    have hh : ∀ k, ((Value.slice (some ⟨g, 0, none⟩) nr k1).ownBlock = some k ∨ (Value.slice (some ⟨gd, 0, none⟩) nd k2).ownBlock = some k) → k ≠ w.heap.size + 1 + 1 := fun k h => by have := (HOL.out k h).1; omega
    exact (((((HOV.out.far (p := ⟨w.heap.size + 1 + 1, 0, none⟩) u0 hh).far (p := ⟨w.heap.size + 1 + 1, 1, none⟩) u1 hh).far (p := ⟨w.heap.size + 1 + 1, 2, none⟩) u2 hh).far (p := ⟨w.heap.size + 1 + 1, 3, none⟩) u3 hh).far (p := ⟨w.heap.size + 1 + 1, 4, none⟩) u4 hh).far (p := ⟨w.heap.size + 1 + 1, 5, none⟩) u5 hh
  exact bodyPost_ret (v := .agg #[.int .i64 ir, .int .i64 (glo - m6), .int .i64 (ghi + m6), .slice (some ⟨g, 0, none⟩) nr k1, .slice (some ⟨gd, 0, none⟩) nd k2, .int .i64 (wrg + m5)]) (results_cell_row Try.results21 _ _ (w.heap.size + 1 + 1) 27 _ (0, 0) _ rfl hbF Try.underlying27 rfl (by kernel_rfl)) rfl ⟨_, _, _, _, rfl, (hOF _ _ _ _ _ _).mono (by omega), by (repeat first | with_reducible assumption | with_reducible exact Below.refl _ _ | (with_reducible refine Below.alloc ?_ ?side _; case side => (first | omega | (with_reducible exact Below.size (by assumption)) | (simp; done) | (simp; omega))) | (with_reducible refine Below.setCell ?_ ?side _; case side => (first | omega | (with_reducible exact Below.size (by assumption)) | (simp; done) | (simp; omega))) | with_reducible refine Below.drew ?_ | with_reducible refine below_drewN ?_ _ | (with_reducible refine below_step (by assumption) ?side ?_; case side => (first | omega | (with_reducible exact Below.size (by assumption)) | (simp; done) | (simp; omega))))⟩
set_option maxRecDepth 100000 in
set_option maxHeartbeats 6400000 in
theorem wider4_10 (Ar : Option Addr) (nr cr : Nat) (Ad : Option Addr) (nd cd : Nat) (p : P4) (x : Re4) (m0 m1 m2 m3 m4 m5 m6 : Int) (w : World) (HM : MemP Ar nr Ad nd p w) (ok : Ok4 nr nd p) (h1 : 0 ≤ m1 ∧ m1 ≤ 1000) (h2 : 0 ≤ m2 ∧ m2 ≤ 1000) (h4 : 0 ≤ m4 ∧ m4 ≤ 1000) (h5 : 0 ≤ m5 ∧ m5 ≤ 1000) (h6 : 0 ≤ m6 ∧ m6 ≤ 1000) (hA : 0 ≤ m0 ∧ m0 < nd) (hB : ¬ (0 ≤ m3 ∧ m3 < nr)) :
    Calls Try.prog 21 #[.agg #[.int .i64 p.ir, .int .i64 p.glo, .int .i64 p.ghi, .slice Ar nr cr, .slice Ad nd cd, .int .i64 p.wr], .agg #[.int .i64 x.wh, .int .i64 x.rd, .int .i64 x.ct, .int .i64 x.rs, .int .i64 x.of, .int .i64 x.lo, .int .i64 x.hi, .int .i64 m0, .int .i64 m1, .int .i64 m2, .int .i64 m3, .int .i64 m4, .int .i64 m5, .int .i64 m6]] w
      fun e w' => ∃ A1 c1 A2 c2, e = .returned (.agg #[.int .i64 p.ir, .int .i64 (p.glo - m6), .int .i64 (p.ghi + m6), .slice A1 nr c1, .slice A2 nd c2, .int .i64 (p.wr + m5)]) ∧ PuOwn w.heap.size A1 nr c1 A2 nd c2 (wdRs p.rods m3 m4) (wdDs p.res m0 m1 m2) w' ∧ Below w.heap.size w w' := by
  have hnr4 := ok.nr4
  have hnd8 := ok.nd8
  have HCP := Lib.hid (fun V (hV : Below w.heap.size w V) => Copy4_c Ar nr cr Ad nd cd p V (by omega) (by omega) (HM.later hV))
  have hr := ok.lr
  have hd := ok.ld
  have hg := ok.g
  have hwr := ok.wr
  have HRE := Lib.hid ok.re
  have HRO := Lib.hid ok.ro
  clear ok HM
  obtain ⟨ir, glo, ghi, wrg, rods, res⟩ := p
  obtain ⟨xw, xr, xc, xs, xo, xl, xh⟩ := x
  simp only at HCP hr hd hg hwr HRE HRO ⊢
  have V5 : IntKind.i64.wrap (wrg + m5) = wrg + m5 := IntWalk.i64_in _ (by omega)
  have V6 : IntKind.i64.wrap (glo - m6) = glo - m6 := IntWalk.i64_in _ (by omega)
  have V7 : IntKind.i64.wrap (ghi + m6) = ghi + m6 := IntWalk.i64_in _ (by omega)
  have HRL := Lib.hid hr
  have HDL := Lib.hid hd
  have HIR := fun A1 k1 A2 k2 V => isRod4_c ir glo ghi wrg A1 nr k1 A2 nd k2 m3 V (by omega)
  have hRs : wdRs rods m3 m4 = if 0 ≤ m3 ∧ m3 < nr then rods.set m3.toNat (wdRo (roAt rods m3.toNat) m4) else rods := by unfold wdRs; rw [hr]
  have hDs : wdDs res m0 m1 m2 = if 0 ≤ m0 ∧ m0 < nd then res.set m0.toNat (wdRe (reAt res m0.toNat) m1 m2) else res := by unfold wdDs; rw [hd]
  rw [hRs, hDs]
  clear hRs hDs hr hd
  rw [if_neg hB, if_pos hA]
  obtain ⟨k, rfl⟩ : ∃ k : Nat, m0 = k := ⟨m0.toNat, by omega⟩
  have hk : k < nd := by omega
  rw [Int.toNat_natCast]
  have HK := Lib.hid hk
  have a1B : decide ((0 : Int) ≤ (k : Int)) = true := decide_eq_true (by omega)
  have a2B : decide (k < nd) = true := decide_eq_true hk
  have hre := HRE.out k hk
  obtain ⟨⟨qw, qr, qc, qS, qo, ql, qh⟩, hrk⟩ : ∃ y, reAt res k = y := ⟨_, rfl⟩
  rw [hrk] at hre ⊢
  simp only [wdRe] at hre ⊢
  have HE0 := Lib.hid hrk
  have VA1 := Lib.hid (IntWalk.i64_in (qo + m1) (by omega) : IntKind.i64.wrap (qo + m1) = qo + m1)
  have VA2 := Lib.hid (IntWalk.i64_in (ql - m2) (by omega) : IntKind.i64.wrap (ql - m2) = ql - m2)
  have VA3 := Lib.hid (IntWalk.i64_in (qh + m2) (by omega) : IntKind.i64.wrap (qh + m2) = qh + m2)
  clear hA hre hrk HRE
  rw [show wn m3 0 ((nr : Int) - 1) = false by cases e : wn m3 0 ((nr : Int) - 1) with | false => rfl | true => exact absurd (wn_true.1 e) (by omega)] at HIR
  replace HIR := Lib.hid HIR
  clear hB HRO
  go_enter Try.func21, Try.ntmps21
  go_upto_region 1 with (fail)
  go_name_world X hX
  have BX : Below w.heap.size w X := (al3 hX).1
  have zX := (al3 hX).2
  have qX0 := (al3_0 hX).2.1
  have lX0 := (al3_0 hX).1
  have HMX : Hid (Blk X (w.heap.size + 1) 50 #[.int .i64 xw, .int .i64 xr, .int .i64 xc, .int .i64 xs, .int .i64 xo, .int .i64 xl, .int .i64 xh, .int .i64 (k : Int), .int .i64 m1, .int .i64 m2, .int .i64 m3, .int .i64 m4, .int .i64 m5, .int .i64 m6]) := by
    rw [← hX]
    have := Blk.new (w.alloc (.cells #[.int .i64 ir, .int .i64 glo, .int .i64 ghi, .slice Ar nr cr, .slice Ad nd cd, .int .i64 wrg] 27)) 50 #[.int .i64 xw, .int .i64 xr, .int .i64 xc, .int .i64 xs, .int .i64 xo, .int .i64 xl, .int .i64 xh, .int .i64 (k : Int), .int .i64 m1, .int .i64 m2, .int .i64 m3, .int .i64 m4, .int .i64 m5, .int .i64 m6]
    rw [World.size_alloc] at this
    exact Lib.hid (this.alloc _)
  have HRX : Hid (Blk X (w.heap.size + 1 + 1) 27 #[.int .i64 0, .int .i64 0, .int .i64 0, .slice none 0 0, .slice none 0 0, .int .i64 0]) := by
    rw [← hX]
    have := Blk.new ((w.alloc (.cells #[.int .i64 ir, .int .i64 glo, .int .i64 ghi, .slice Ar nr cr, .slice Ad nd cd, .int .i64 wrg] 27)).alloc (.cells #[.int .i64 xw, .int .i64 xr, .int .i64 xc, .int .i64 xs, .int .i64 xo, .int .i64 xl, .int .i64 xh, .int .i64 (k : Int), .int .i64 m1, .int .i64 m2, .int .i64 m3, .int .i64 m4, .int .i64 m5, .int .i64 m6] 50)) 27 #[.int .i64 0, .int .i64 0, .int .i64 0, .slice none 0 0, .slice none 0 0, .int .i64 0]
    simp only [World.size_alloc] at this
    exact Lib.hid this
  have ZX := Lib.hid zX
  clear hX zX
  go_upto_region 2 with (go_at_call 11; refine (HCP.out X BX).mono ?_; (rintro e w1 ⟨A1, k1, A2, k2, rfl, hO, hb1⟩); (have z1 := hb1.size); (have HM1 := Lib.hid (HMX.out.below hb1 HMX.out.lt)); (have HR1 := Lib.hid (HRX.out.below hb1 HRX.out.lt)); (have B1 := BX.trans (hb1.mono BX.size)); (have HO1 := Lib.hid hO); clear hb1 hO qX0 lX0)
  go_name_world Y hY
  have bY : Below w1.heap.size w1 Y := (al1 hY).1
  have HOY := Lib.hid (HO1.out.later bY)
  have HMY := Lib.hid (HM1.out.below bY HM1.out.lt)
  have HRY := Lib.hid (HR1.out.below bY HR1.out.lt)
  have BWY := B1.trans (bY.mono B1.size)
  have HBY : Hid (Blk Y w1.heap.size 27 #[.int .i64 ir, .int .i64 glo, .int .i64 ghi, .slice A1 nr k1, .slice A2 nd k2, .int .i64 wrg]) := by rw [← hY]; exact Lib.hid (Blk.new _ _ _)
  have HOL : Hid (∀ k, ((Value.slice A1 nr k1).ownBlock = some k ∨ (Value.slice A2 nd k2).ownBlock = some k) → X.heap.size ≤ k ∧ k ≠ w1.heap.size) := Lib.hid (fun k h => by have := HO1.out.blocks k h; omega)
  have hX2 : w.heap.size + 1 + 1 < X.heap.size := by have := ZX.out; omega
  have hw1 : X.heap.size ≤ w1.heap.size := z1
  have kY := HBY.out.cell
  have gY := HMY.out.cell
  have lY := HBY.out.lt
  have mY := HMY.out.lt
  clear hY bY HM1 HR1
  obtain ⟨g, k2', e2, hg0, hg1⟩ := HOY.out.hl.form (by omega)
  cases e2
  have HGN : Hid (w.heap.size ≤ g ∧ w1.heap.size ≠ g ∧ w.heap.size + 1 ≠ g ∧ w.heap.size + 1 + 1 ≠ g) := Lib.hid (by have := (HOL.out g (.inr rfl)).2; omega)
  clear hg0 hg1
  go_upto_region 3 with (fail)
  clear kY gY lY mY
  have Y1 := VA1.out
  have kZ := HBY.out.cell
  have gZ := HMY.out.cell
  have lZ := HBY.out.lt
  have mZ := HMY.out.lt
  obtain ⟨c0, c1, c2, c3, c4, c5, c6, fz, lg⟩ := HOY.out.reC HDL.out HK.out
  rw [HE0.out] at c0 c1 c2 c3 c4 c5 c6
  simp only at c0 c1 c2 c3 c4 c5 c6
  go_upto_region 3 with (fail)
  have hS : (∀ j, Y.drew.cell? ⟨w1.heap.size, j, none⟩ = #[Value.int .i64 ir, .int .i64 glo, .int .i64 ghi, .slice A1 nr k1, .slice (some ⟨g, 0, none⟩) nd k2, .int .i64 wrg][j]?) ∧ (∀ j, Y.drew.cell? ⟨w.heap.size + 1, j, none⟩ = #[Value.int .i64 xw, .int .i64 xr, .int .i64 xc, .int .i64 xs, .int .i64 xo, .int .i64 xl, .int .i64 xh, .int .i64 (k : Int), .int .i64 m1, .int .i64 m2, .int .i64 m3, .int .i64 m4, .int .i64 m5, .int .i64 m6][j]?) ∧ Y.drew.cell? ⟨g, k * 7 + 4, none⟩ = some (.int .i64 qo) := ⟨fun j => kZ j, fun j => gZ j, c4⟩
  refine wp_region_L (by kernel_rfl) (fun W' => (∀ j, W'.cell? ⟨w1.heap.size, j, none⟩ = #[Value.int .i64 ir, .int .i64 glo, .int .i64 ghi, .slice A1 nr k1, .slice (some ⟨g, 0, none⟩) nd k2, .int .i64 wrg][j]?) ∧ (∀ j, W'.cell? ⟨w.heap.size + 1, j, none⟩ = #[Value.int .i64 xw, .int .i64 xr, .int .i64 xc, .int .i64 xs, .int .i64 xo, .int .i64 xl, .int .i64 xh, .int .i64 (k : Int), .int .i64 m1, .int .i64 m2, .int .i64 m3, .int .i64 m4, .int .i64 m5, .int .i64 m6][j]?) ∧ W'.cell? ⟨g, k * 7 + 4, none⟩ = some (.int .i64 qo)) 12 ?_
  refine wpAnyL_take (i := 0) (v := ?_) rfl (by kernel_rfl) (by kernel_rfl) (by kernel_rfl) (by kernel_rfl) (fun _ _ _ h => h) hS (Or.inl ⟨by rfl, ?_⟩) ?_
  rotate_left 1
  · intro w9 hw9
    obtain ⟨s0, s1, s2⟩ := hw9
    go_simp
    try with_reducible rfl
  try simp only [List.getElem_toArray, List.getElem_cons_zero, Act.put, List.setIfInBounds_toArray, List.set_cons_zero, List.set_cons_succ]
  refine wpAnyL_take (i := 1) (v := ?_) rfl (by kernel_rfl) (by kernel_rfl) (by kernel_rfl) (by kernel_rfl) (fun _ _ _ h => h) hS (Or.inl ⟨by rfl, ?_⟩) ?_
  rotate_left 1
  · intro w9 hw9
    obtain ⟨s0, s1, s2⟩ := hw9
    go_simp
    try with_reducible rfl
  try simp only [List.getElem_toArray, List.getElem_cons_zero, List.getElem_cons_succ, Act.put, List.setIfInBounds_toArray, List.set_cons_zero, List.set_cons_succ]
  refine wpAnyL_take (i := 2) (v := ?_) rfl (by kernel_rfl) (by kernel_rfl) (by kernel_rfl) (by kernel_rfl) (fun _ _ _ h => h) hS (Or.inl ⟨by rfl, ?_⟩) ?_
  rotate_left 1
  · intro w9 hw9
    obtain ⟨s0, s1, s2⟩ := hw9
    go_simp
    try with_reducible rfl
  try simp only [List.getElem_toArray, List.getElem_cons_zero, List.getElem_cons_succ, Act.put, List.setIfInBounds_toArray, List.set_cons_zero, List.set_cons_succ]
  refine wpAnyL_take (i := 3) (v := ?_) rfl (by kernel_rfl) (by kernel_rfl) (by kernel_rfl) (by kernel_rfl) (fun _ _ _ h => h) hS (Or.inl ⟨by rfl, ?_⟩) ?_
  rotate_left 1
  · intro w9 hw9
    obtain ⟨s0, s1, s2⟩ := hw9
    go_simp
    try with_reducible rfl
  try simp only [List.getElem_toArray, List.getElem_cons_zero, List.getElem_cons_succ, Act.put, List.setIfInBounds_toArray, List.set_cons_zero, List.set_cons_succ]
  refine wpAnyL_take (i := 4) (v := ?_) rfl (by kernel_rfl) (by kernel_rfl) (by kernel_rfl) (by kernel_rfl) (fun _ _ _ h => h) hS (Or.inl ⟨by rfl, ?_⟩) ?_
  rotate_left 1
  · intro w9 hw9
    obtain ⟨s0, s1, s2⟩ := hw9
    go_simp
    try with_reducible rfl
  try simp only [List.getElem_toArray, List.getElem_cons_zero, List.getElem_cons_succ, Act.put, List.setIfInBounds_toArray, List.set_cons_zero, List.set_cons_succ]
  refine wpAnyL_take (i := 5) (v := ?_) rfl (by kernel_rfl) (by kernel_rfl) (by kernel_rfl) (by kernel_rfl) (fun _ _ _ h => h) hS (Or.inl ⟨by rfl, ?_⟩) ?_
  rotate_left 1
  · intro w9 hw9
    obtain ⟨s0, s1, s2⟩ := hw9
    go_simp
    try with_reducible rfl
  try simp only [List.getElem_toArray, List.getElem_cons_zero, List.getElem_cons_succ, Act.put, List.setIfInBounds_toArray, List.set_cons_zero, List.set_cons_succ]
  refine wpAnyL_take (i := 6) (v := ?_) rfl (by kernel_rfl) (by kernel_rfl) (by kernel_rfl) (by kernel_rfl) (fun _ _ _ h => h) hS (Or.inl ⟨by rfl, ?_⟩) ?_
  rotate_left 1
  · intro w9 hw9
    obtain ⟨s0, s1, s2⟩ := hw9
    go_simp
    try with_reducible rfl
  try simp only [List.getElem_toArray, List.getElem_cons_zero, List.getElem_cons_succ, Act.put, List.setIfInBounds_toArray, List.set_cons_zero, List.set_cons_succ]
  refine wpAnyL_take (i := 7) (v := ?_) rfl (by kernel_rfl) (by kernel_rfl) (by kernel_rfl) (by kernel_rfl) (fun _ _ _ h => h) hS (Or.inl ⟨by rfl, ?_⟩) ?_
  rotate_left 1
  · intro w9 hw9
    obtain ⟨s0, s1, s2⟩ := hw9
    go_simp
    try with_reducible rfl
  try simp only [List.getElem_toArray, List.getElem_cons_zero, List.getElem_cons_succ, Act.put, List.setIfInBounds_toArray, List.set_cons_zero, List.set_cons_succ]
  refine wpAnyL_take (i := 8) (v := ?_) rfl (by kernel_rfl) (by kernel_rfl) (by kernel_rfl) (by kernel_rfl) (fun _ _ _ h => h) hS (Or.inl ⟨by rfl, ?_⟩) ?_
  rotate_left 1
  · intro w9 hw9
    obtain ⟨s0, s1, s2⟩ := hw9
    go_simp
    try with_reducible rfl
  try simp only [List.getElem_toArray, List.getElem_cons_zero, List.getElem_cons_succ, Act.put, List.setIfInBounds_toArray, List.set_cons_zero, List.set_cons_succ]
  refine wpAnyL_take (i := 9) (v := ?_) rfl (by kernel_rfl) (by kernel_rfl) (by kernel_rfl) (by kernel_rfl) (fun _ _ _ h => h) hS (Or.inl ⟨by rfl, ?_⟩) ?_
  rotate_left 1
  · intro w9 hw9
    obtain ⟨s0, s1, s2⟩ := hw9
    go_simp
    try with_reducible rfl
  try simp only [List.getElem_toArray, List.getElem_cons_zero, List.getElem_cons_succ, Act.put, List.setIfInBounds_toArray, List.set_cons_zero, List.set_cons_succ]
  refine wpAnyL_one (i := 10) (by kernel_rfl) rfl (fun K hK => ?_)
  go_simp
  refine hK.out _ _ (fun _ => hS) (fun hS' => ?_)
  clear hK K hS'
  try simp only [List.getElem_toArray, List.getElem_cons_zero, List.getElem_cons_succ, Act.put, List.setIfInBounds_toArray, List.set_cons_zero, List.set_cons_succ]
  refine wpAnyL_take (i := 11) (v := ?_) rfl (by kernel_rfl) (by kernel_rfl) (by kernel_rfl) (by kernel_rfl) (fun _ _ _ h => h) hS (Or.inl ⟨by rfl, ?_⟩) ?_
  rotate_left 1
  · intro w9 hw9
    obtain ⟨s0, s1, s2⟩ := hw9
    go_simp
    try with_reducible rfl
  try simp only [List.getElem_toArray, List.getElem_cons_zero, List.getElem_cons_succ, Act.put, List.setIfInBounds_toArray, List.set_cons_zero, List.set_cons_succ]
  refine wpAnyL_one (i := 12) (by kernel_rfl) rfl (fun K hK => ?_)
  go_simp
  refine hK.out _ _ (fun h => absurd rfl h) (fun hS' => ?_)
  refine wpAnyL_done (by kernel_rfl) ?_ _
  clear hS hK K hS'
  go_upto_region 4 with (fail)
  go_name_world Z1 hZ
  have HOZ1 := Lib.hid (by rw [← hZ]; exact PuOwn.setRe ⟨HOY.out.hp.drew, HOY.out.hl.drew, HOY.out.ne⟩ HDL.out HK.out (j := 4) (by omega) ⟨qw, qr, qc, qS, qo + m1, ql, qh⟩ _ (by rw [HE0.out]; rfl) : PuOwn X.heap.size A1 nr k1 (some ⟨g, 0, none⟩) nd k2 rods (res.set k ⟨qw, qr, qc, qS, qo + m1, ql, qh⟩) Z1)
  have HBZ1 := Lib.hid (by rw [← hZ]; exact HBY.out.drew.far (by show w1.heap.size ≠ g; exact HGN.out.2.1) _ : Blk Z1 w1.heap.size 27 #[Value.int .i64 ir, .int .i64 glo, .int .i64 ghi, .slice A1 nr k1, .slice (some ⟨g, 0, none⟩) nd k2, .int .i64 wrg])
  have HMZ1 := Lib.hid (by rw [← hZ]; exact HMY.out.drew.far (by show w.heap.size + 1 ≠ g; exact HGN.out.2.2.1) _ : Blk Z1 (w.heap.size + 1) 50 #[.int .i64 xw, .int .i64 xr, .int .i64 xc, .int .i64 xs, .int .i64 xo, .int .i64 xl, .int .i64 xh, .int .i64 (k : Int), .int .i64 m1, .int .i64 m2, .int .i64 m3, .int .i64 m4, .int .i64 m5, .int .i64 m6])
  have HRZ1 := Lib.hid (by rw [← hZ]; exact HRY.out.drew.far (by show w.heap.size + 1 + 1 ≠ g; exact HGN.out.2.2.2) _ : Blk Z1 (w.heap.size + 1 + 1) 27 #[.int .i64 0, .int .i64 0, .int .i64 0, .slice none 0 0, .slice none 0 0, .int .i64 0])
  have BWZ1 : Below w.heap.size w Z1 := by rw [← hZ]; exact (Below.drew BWY).setCell (by show w.heap.size ≤ g; exact HGN.out.1) _
  clear hZ kZ gZ lZ mZ c0 c1 c2 c3 c4 c5 c6 fz lg
  have HDL1 := Lib.hid ((List.length_set ..).trans HDL.out : (res.set k ⟨qw, qr, qc, qS, qo + m1, ql, qh⟩).length = nd)
  have HE1 := Lib.hid (by rw [reAt_set (by rw [HDL.out]; exact HK.out), if_pos rfl] : reAt (res.set k ⟨qw, qr, qc, qS, qo + m1, ql, qh⟩) k = ⟨qw, qr, qc, qS, qo + m1, ql, qh⟩)
  clear Y1
  have Y2 := VA2.out
  have kZ := HBZ1.out.cell
  have gZ := HMZ1.out.cell
  have lZ := HBZ1.out.lt
  have mZ := HMZ1.out.lt
  obtain ⟨c0, c1, c2, c3, c4, c5, c6, fz, lg⟩ := HOZ1.out.reC HDL1.out HK.out
  rw [HE1.out] at c0 c1 c2 c3 c4 c5 c6
  simp only at c0 c1 c2 c3 c4 c5 c6
  go_upto_region 4 with (fail)
  have hS : (∀ j, Z1.drew.cell? ⟨w1.heap.size, j, none⟩ = #[Value.int .i64 ir, .int .i64 glo, .int .i64 ghi, .slice A1 nr k1, .slice (some ⟨g, 0, none⟩) nd k2, .int .i64 wrg][j]?) ∧ (∀ j, Z1.drew.cell? ⟨w.heap.size + 1, j, none⟩ = #[Value.int .i64 xw, .int .i64 xr, .int .i64 xc, .int .i64 xs, .int .i64 xo, .int .i64 xl, .int .i64 xh, .int .i64 (k : Int), .int .i64 m1, .int .i64 m2, .int .i64 m3, .int .i64 m4, .int .i64 m5, .int .i64 m6][j]?) ∧ Z1.drew.cell? ⟨g, k * 7 + 5, none⟩ = some (.int .i64 ql) := ⟨fun j => kZ j, fun j => gZ j, c5⟩
  refine wp_region_L (by kernel_rfl) (fun W' => (∀ j, W'.cell? ⟨w1.heap.size, j, none⟩ = #[Value.int .i64 ir, .int .i64 glo, .int .i64 ghi, .slice A1 nr k1, .slice (some ⟨g, 0, none⟩) nd k2, .int .i64 wrg][j]?) ∧ (∀ j, W'.cell? ⟨w.heap.size + 1, j, none⟩ = #[Value.int .i64 xw, .int .i64 xr, .int .i64 xc, .int .i64 xs, .int .i64 xo, .int .i64 xl, .int .i64 xh, .int .i64 (k : Int), .int .i64 m1, .int .i64 m2, .int .i64 m3, .int .i64 m4, .int .i64 m5, .int .i64 m6][j]?) ∧ W'.cell? ⟨g, k * 7 + 5, none⟩ = some (.int .i64 ql)) 14 ?_
  refine wpAnyL_take (i := 0) (v := ?_) rfl (by kernel_rfl) (by kernel_rfl) (by kernel_rfl) (by kernel_rfl) (fun _ _ _ h => h) hS (Or.inl ⟨by rfl, ?_⟩) ?_
  rotate_left 1
  · intro w9 hw9
    obtain ⟨s0, s1, s2⟩ := hw9
    go_simp
    try with_reducible rfl
  try simp only [List.getElem_toArray, List.getElem_cons_zero, Act.put, List.setIfInBounds_toArray, List.set_cons_zero, List.set_cons_succ]
  refine wpAnyL_take (i := 1) (v := ?_) rfl (by kernel_rfl) (by kernel_rfl) (by kernel_rfl) (by kernel_rfl) (fun _ _ _ h => h) hS (Or.inl ⟨by rfl, ?_⟩) ?_
  rotate_left 1
  · intro w9 hw9
    obtain ⟨s0, s1, s2⟩ := hw9
    go_simp
    try with_reducible rfl
  try simp only [List.getElem_toArray, List.getElem_cons_zero, List.getElem_cons_succ, Act.put, List.setIfInBounds_toArray, List.set_cons_zero, List.set_cons_succ]
  refine wpAnyL_take (i := 2) (v := ?_) rfl (by kernel_rfl) (by kernel_rfl) (by kernel_rfl) (by kernel_rfl) (fun _ _ _ h => h) hS (Or.inl ⟨by rfl, ?_⟩) ?_
  rotate_left 1
  · intro w9 hw9
    obtain ⟨s0, s1, s2⟩ := hw9
    go_simp
    try with_reducible rfl
  try simp only [List.getElem_toArray, List.getElem_cons_zero, List.getElem_cons_succ, Act.put, List.setIfInBounds_toArray, List.set_cons_zero, List.set_cons_succ]
  refine wpAnyL_take (i := 3) (v := ?_) rfl (by kernel_rfl) (by kernel_rfl) (by kernel_rfl) (by kernel_rfl) (fun _ _ _ h => h) hS (Or.inl ⟨by rfl, ?_⟩) ?_
  rotate_left 1
  · intro w9 hw9
    obtain ⟨s0, s1, s2⟩ := hw9
    go_simp
    try with_reducible rfl
  try simp only [List.getElem_toArray, List.getElem_cons_zero, List.getElem_cons_succ, Act.put, List.setIfInBounds_toArray, List.set_cons_zero, List.set_cons_succ]
  refine wpAnyL_take (i := 4) (v := ?_) rfl (by kernel_rfl) (by kernel_rfl) (by kernel_rfl) (by kernel_rfl) (fun _ _ _ h => h) hS (Or.inl ⟨by rfl, ?_⟩) ?_
  rotate_left 1
  · intro w9 hw9
    obtain ⟨s0, s1, s2⟩ := hw9
    go_simp
    try with_reducible rfl
  try simp only [List.getElem_toArray, List.getElem_cons_zero, List.getElem_cons_succ, Act.put, List.setIfInBounds_toArray, List.set_cons_zero, List.set_cons_succ]
  refine wpAnyL_take (i := 5) (v := ?_) rfl (by kernel_rfl) (by kernel_rfl) (by kernel_rfl) (by kernel_rfl) (fun _ _ _ h => h) hS (Or.inl ⟨by rfl, ?_⟩) ?_
  rotate_left 1
  · intro w9 hw9
    obtain ⟨s0, s1, s2⟩ := hw9
    go_simp
    try with_reducible rfl
  try simp only [List.getElem_toArray, List.getElem_cons_zero, List.getElem_cons_succ, Act.put, List.setIfInBounds_toArray, List.set_cons_zero, List.set_cons_succ]
  refine wpAnyL_take (i := 6) (v := ?_) rfl (by kernel_rfl) (by kernel_rfl) (by kernel_rfl) (by kernel_rfl) (fun _ _ _ h => h) hS (Or.inl ⟨by rfl, ?_⟩) ?_
  rotate_left 1
  · intro w9 hw9
    obtain ⟨s0, s1, s2⟩ := hw9
    go_simp
    try with_reducible rfl
  try simp only [List.getElem_toArray, List.getElem_cons_zero, List.getElem_cons_succ, Act.put, List.setIfInBounds_toArray, List.set_cons_zero, List.set_cons_succ]
  refine wpAnyL_take (i := 7) (v := ?_) rfl (by kernel_rfl) (by kernel_rfl) (by kernel_rfl) (by kernel_rfl) (fun _ _ _ h => h) hS (Or.inl ⟨by rfl, ?_⟩) ?_
  rotate_left 1
  · intro w9 hw9
    obtain ⟨s0, s1, s2⟩ := hw9
    go_simp
    try with_reducible rfl
  try simp only [List.getElem_toArray, List.getElem_cons_zero, List.getElem_cons_succ, Act.put, List.setIfInBounds_toArray, List.set_cons_zero, List.set_cons_succ]
  refine wpAnyL_take (i := 8) (v := ?_) rfl (by kernel_rfl) (by kernel_rfl) (by kernel_rfl) (by kernel_rfl) (fun _ _ _ h => h) hS (Or.inl ⟨by rfl, ?_⟩) ?_
  rotate_left 1
  · intro w9 hw9
    obtain ⟨s0, s1, s2⟩ := hw9
    go_simp
    try with_reducible rfl
  try simp only [List.getElem_toArray, List.getElem_cons_zero, List.getElem_cons_succ, Act.put, List.setIfInBounds_toArray, List.set_cons_zero, List.set_cons_succ]
  refine wpAnyL_take (i := 9) (v := ?_) rfl (by kernel_rfl) (by kernel_rfl) (by kernel_rfl) (by kernel_rfl) (fun _ _ _ h => h) hS (Or.inl ⟨by rfl, ?_⟩) ?_
  rotate_left 1
  · intro w9 hw9
    obtain ⟨s0, s1, s2⟩ := hw9
    go_simp
    try with_reducible rfl
  try simp only [List.getElem_toArray, List.getElem_cons_zero, List.getElem_cons_succ, Act.put, List.setIfInBounds_toArray, List.set_cons_zero, List.set_cons_succ]
  refine wpAnyL_take (i := 10) (v := ?_) rfl (by kernel_rfl) (by kernel_rfl) (by kernel_rfl) (by kernel_rfl) (fun _ _ _ h => h) hS (Or.inl ⟨by rfl, ?_⟩) ?_
  rotate_left 1
  · intro w9 hw9
    obtain ⟨s0, s1, s2⟩ := hw9
    go_simp
    try with_reducible rfl
  try simp only [List.getElem_toArray, List.getElem_cons_zero, List.getElem_cons_succ, Act.put, List.setIfInBounds_toArray, List.set_cons_zero, List.set_cons_succ]
  refine wpAnyL_one (i := 11) (by kernel_rfl) rfl (fun K hK => ?_)
  go_simp
  refine hK.out _ _ (fun _ => hS) (fun hS' => ?_)
  clear hK K hS'
  try simp only [List.getElem_toArray, List.getElem_cons_zero, List.getElem_cons_succ, Act.put, List.setIfInBounds_toArray, List.set_cons_zero, List.set_cons_succ]
  refine wpAnyL_one (i := 12) (by kernel_rfl) rfl (fun K hK => ?_)
  go_simp
  refine hK.out _ _ (fun _ => hS) (fun hS' => ?_)
  clear hK K hS'
  try simp only [List.getElem_toArray, List.getElem_cons_zero, List.getElem_cons_succ, Act.put, List.setIfInBounds_toArray, List.set_cons_zero, List.set_cons_succ]
  refine wpAnyL_take (i := 13) (v := ?_) rfl (by kernel_rfl) (by kernel_rfl) (by kernel_rfl) (by kernel_rfl) (fun _ _ _ h => h) hS (Or.inl ⟨by rfl, ?_⟩) ?_
  rotate_left 1
  · intro w9 hw9
    obtain ⟨s0, s1, s2⟩ := hw9
    go_simp
    try with_reducible rfl
  try simp only [List.getElem_toArray, List.getElem_cons_zero, List.getElem_cons_succ, Act.put, List.setIfInBounds_toArray, List.set_cons_zero, List.set_cons_succ]
  refine wpAnyL_one (i := 14) (by kernel_rfl) rfl (fun K hK => ?_)
  go_simp
  refine hK.out _ _ (fun h => absurd rfl h) (fun hS' => ?_)
  refine wpAnyL_done (by kernel_rfl) ?_ _
  clear hS hK K hS'
  go_upto_region 5 with (fail)
  go_name_world Z2 hZ
  have HOZ2 := Lib.hid (by rw [← hZ]; exact PuOwn.setRe ⟨HOZ1.out.hp.drew, HOZ1.out.hl.drew, HOZ1.out.ne⟩ HDL1.out HK.out (j := 5) (by omega) ⟨qw, qr, qc, qS, qo + m1, ql - m2, qh⟩ _ (by rw [HE1.out]; rfl) : PuOwn X.heap.size A1 nr k1 (some ⟨g, 0, none⟩) nd k2 rods ((res.set k ⟨qw, qr, qc, qS, qo + m1, ql, qh⟩).set k ⟨qw, qr, qc, qS, qo + m1, ql - m2, qh⟩) Z2)
  have HBZ2 := Lib.hid (by rw [← hZ]; exact HBZ1.out.drew.far (by show w1.heap.size ≠ g; exact HGN.out.2.1) _ : Blk Z2 w1.heap.size 27 #[Value.int .i64 ir, .int .i64 glo, .int .i64 ghi, .slice A1 nr k1, .slice (some ⟨g, 0, none⟩) nd k2, .int .i64 wrg])
  have HMZ2 := Lib.hid (by rw [← hZ]; exact HMZ1.out.drew.far (by show w.heap.size + 1 ≠ g; exact HGN.out.2.2.1) _ : Blk Z2 (w.heap.size + 1) 50 #[.int .i64 xw, .int .i64 xr, .int .i64 xc, .int .i64 xs, .int .i64 xo, .int .i64 xl, .int .i64 xh, .int .i64 (k : Int), .int .i64 m1, .int .i64 m2, .int .i64 m3, .int .i64 m4, .int .i64 m5, .int .i64 m6])
  have HRZ2 := Lib.hid (by rw [← hZ]; exact HRZ1.out.drew.far (by show w.heap.size + 1 + 1 ≠ g; exact HGN.out.2.2.2) _ : Blk Z2 (w.heap.size + 1 + 1) 27 #[.int .i64 0, .int .i64 0, .int .i64 0, .slice none 0 0, .slice none 0 0, .int .i64 0])
  have BWZ2 : Below w.heap.size w Z2 := by rw [← hZ]; exact (Below.drew BWZ1).setCell (by show w.heap.size ≤ g; exact HGN.out.1) _
  clear hZ kZ gZ lZ mZ c0 c1 c2 c3 c4 c5 c6 fz lg
  have HDL2 := Lib.hid ((List.length_set ..).trans HDL1.out : ((res.set k ⟨qw, qr, qc, qS, qo + m1, ql, qh⟩).set k ⟨qw, qr, qc, qS, qo + m1, ql - m2, qh⟩).length = nd)
  have HE2 := Lib.hid (by rw [reAt_set (by rw [HDL1.out]; exact HK.out), if_pos rfl] : reAt ((res.set k ⟨qw, qr, qc, qS, qo + m1, ql, qh⟩).set k ⟨qw, qr, qc, qS, qo + m1, ql - m2, qh⟩) k = ⟨qw, qr, qc, qS, qo + m1, ql - m2, qh⟩)
  clear Y2
  have Y3 := VA3.out
  have kZ := HBZ2.out.cell
  have gZ := HMZ2.out.cell
  have lZ := HBZ2.out.lt
  have mZ := HMZ2.out.lt
  obtain ⟨c0, c1, c2, c3, c4, c5, c6, fz, lg⟩ := HOZ2.out.reC HDL2.out HK.out
  rw [HE2.out] at c0 c1 c2 c3 c4 c5 c6
  simp only at c0 c1 c2 c3 c4 c5 c6
  go_upto_region 5 with (fail)
  have hS : (∀ j, Z2.drew.cell? ⟨w1.heap.size, j, none⟩ = #[Value.int .i64 ir, .int .i64 glo, .int .i64 ghi, .slice A1 nr k1, .slice (some ⟨g, 0, none⟩) nd k2, .int .i64 wrg][j]?) ∧ (∀ j, Z2.drew.cell? ⟨w.heap.size + 1, j, none⟩ = #[Value.int .i64 xw, .int .i64 xr, .int .i64 xc, .int .i64 xs, .int .i64 xo, .int .i64 xl, .int .i64 xh, .int .i64 (k : Int), .int .i64 m1, .int .i64 m2, .int .i64 m3, .int .i64 m4, .int .i64 m5, .int .i64 m6][j]?) ∧ Z2.drew.cell? ⟨g, k * 7 + 6, none⟩ = some (.int .i64 qh) := ⟨fun j => kZ j, fun j => gZ j, c6⟩
  refine wp_region_L (by kernel_rfl) (fun W' => (∀ j, W'.cell? ⟨w1.heap.size, j, none⟩ = #[Value.int .i64 ir, .int .i64 glo, .int .i64 ghi, .slice A1 nr k1, .slice (some ⟨g, 0, none⟩) nd k2, .int .i64 wrg][j]?) ∧ (∀ j, W'.cell? ⟨w.heap.size + 1, j, none⟩ = #[Value.int .i64 xw, .int .i64 xr, .int .i64 xc, .int .i64 xs, .int .i64 xo, .int .i64 xl, .int .i64 xh, .int .i64 (k : Int), .int .i64 m1, .int .i64 m2, .int .i64 m3, .int .i64 m4, .int .i64 m5, .int .i64 m6][j]?) ∧ W'.cell? ⟨g, k * 7 + 6, none⟩ = some (.int .i64 qh)) 14 ?_
  refine wpAnyL_take (i := 0) (v := ?_) rfl (by kernel_rfl) (by kernel_rfl) (by kernel_rfl) (by kernel_rfl) (fun _ _ _ h => h) hS (Or.inl ⟨by rfl, ?_⟩) ?_
  rotate_left 1
  · intro w9 hw9
    obtain ⟨s0, s1, s2⟩ := hw9
    go_simp
    try with_reducible rfl
  try simp only [List.getElem_toArray, List.getElem_cons_zero, Act.put, List.setIfInBounds_toArray, List.set_cons_zero, List.set_cons_succ]
  refine wpAnyL_take (i := 1) (v := ?_) rfl (by kernel_rfl) (by kernel_rfl) (by kernel_rfl) (by kernel_rfl) (fun _ _ _ h => h) hS (Or.inl ⟨by rfl, ?_⟩) ?_
  rotate_left 1
  · intro w9 hw9
    obtain ⟨s0, s1, s2⟩ := hw9
    go_simp
    try with_reducible rfl
  try simp only [List.getElem_toArray, List.getElem_cons_zero, List.getElem_cons_succ, Act.put, List.setIfInBounds_toArray, List.set_cons_zero, List.set_cons_succ]
  refine wpAnyL_take (i := 2) (v := ?_) rfl (by kernel_rfl) (by kernel_rfl) (by kernel_rfl) (by kernel_rfl) (fun _ _ _ h => h) hS (Or.inl ⟨by rfl, ?_⟩) ?_
  rotate_left 1
  · intro w9 hw9
    obtain ⟨s0, s1, s2⟩ := hw9
    go_simp
    try with_reducible rfl
  try simp only [List.getElem_toArray, List.getElem_cons_zero, List.getElem_cons_succ, Act.put, List.setIfInBounds_toArray, List.set_cons_zero, List.set_cons_succ]
  refine wpAnyL_take (i := 3) (v := ?_) rfl (by kernel_rfl) (by kernel_rfl) (by kernel_rfl) (by kernel_rfl) (fun _ _ _ h => h) hS (Or.inl ⟨by rfl, ?_⟩) ?_
  rotate_left 1
  · intro w9 hw9
    obtain ⟨s0, s1, s2⟩ := hw9
    go_simp
    try with_reducible rfl
  try simp only [List.getElem_toArray, List.getElem_cons_zero, List.getElem_cons_succ, Act.put, List.setIfInBounds_toArray, List.set_cons_zero, List.set_cons_succ]
  refine wpAnyL_take (i := 4) (v := ?_) rfl (by kernel_rfl) (by kernel_rfl) (by kernel_rfl) (by kernel_rfl) (fun _ _ _ h => h) hS (Or.inl ⟨by rfl, ?_⟩) ?_
  rotate_left 1
  · intro w9 hw9
    obtain ⟨s0, s1, s2⟩ := hw9
    go_simp
    try with_reducible rfl
  try simp only [List.getElem_toArray, List.getElem_cons_zero, List.getElem_cons_succ, Act.put, List.setIfInBounds_toArray, List.set_cons_zero, List.set_cons_succ]
  refine wpAnyL_take (i := 5) (v := ?_) rfl (by kernel_rfl) (by kernel_rfl) (by kernel_rfl) (by kernel_rfl) (fun _ _ _ h => h) hS (Or.inl ⟨by rfl, ?_⟩) ?_
  rotate_left 1
  · intro w9 hw9
    obtain ⟨s0, s1, s2⟩ := hw9
    go_simp
    try with_reducible rfl
  try simp only [List.getElem_toArray, List.getElem_cons_zero, List.getElem_cons_succ, Act.put, List.setIfInBounds_toArray, List.set_cons_zero, List.set_cons_succ]
  refine wpAnyL_take (i := 6) (v := ?_) rfl (by kernel_rfl) (by kernel_rfl) (by kernel_rfl) (by kernel_rfl) (fun _ _ _ h => h) hS (Or.inl ⟨by rfl, ?_⟩) ?_
  rotate_left 1
  · intro w9 hw9
    obtain ⟨s0, s1, s2⟩ := hw9
    go_simp
    try with_reducible rfl
  try simp only [List.getElem_toArray, List.getElem_cons_zero, List.getElem_cons_succ, Act.put, List.setIfInBounds_toArray, List.set_cons_zero, List.set_cons_succ]
  refine wpAnyL_take (i := 7) (v := ?_) rfl (by kernel_rfl) (by kernel_rfl) (by kernel_rfl) (by kernel_rfl) (fun _ _ _ h => h) hS (Or.inl ⟨by rfl, ?_⟩) ?_
  rotate_left 1
  · intro w9 hw9
    obtain ⟨s0, s1, s2⟩ := hw9
    go_simp
    try with_reducible rfl
  try simp only [List.getElem_toArray, List.getElem_cons_zero, List.getElem_cons_succ, Act.put, List.setIfInBounds_toArray, List.set_cons_zero, List.set_cons_succ]
  refine wpAnyL_take (i := 8) (v := ?_) rfl (by kernel_rfl) (by kernel_rfl) (by kernel_rfl) (by kernel_rfl) (fun _ _ _ h => h) hS (Or.inl ⟨by rfl, ?_⟩) ?_
  rotate_left 1
  · intro w9 hw9
    obtain ⟨s0, s1, s2⟩ := hw9
    go_simp
    try with_reducible rfl
  try simp only [List.getElem_toArray, List.getElem_cons_zero, List.getElem_cons_succ, Act.put, List.setIfInBounds_toArray, List.set_cons_zero, List.set_cons_succ]
  refine wpAnyL_take (i := 9) (v := ?_) rfl (by kernel_rfl) (by kernel_rfl) (by kernel_rfl) (by kernel_rfl) (fun _ _ _ h => h) hS (Or.inl ⟨by rfl, ?_⟩) ?_
  rotate_left 1
  · intro w9 hw9
    obtain ⟨s0, s1, s2⟩ := hw9
    go_simp
    try with_reducible rfl
  try simp only [List.getElem_toArray, List.getElem_cons_zero, List.getElem_cons_succ, Act.put, List.setIfInBounds_toArray, List.set_cons_zero, List.set_cons_succ]
  refine wpAnyL_take (i := 10) (v := ?_) rfl (by kernel_rfl) (by kernel_rfl) (by kernel_rfl) (by kernel_rfl) (fun _ _ _ h => h) hS (Or.inl ⟨by rfl, ?_⟩) ?_
  rotate_left 1
  · intro w9 hw9
    obtain ⟨s0, s1, s2⟩ := hw9
    go_simp
    try with_reducible rfl
  try simp only [List.getElem_toArray, List.getElem_cons_zero, List.getElem_cons_succ, Act.put, List.setIfInBounds_toArray, List.set_cons_zero, List.set_cons_succ]
  refine wpAnyL_one (i := 11) (by kernel_rfl) rfl (fun K hK => ?_)
  go_simp
  refine hK.out _ _ (fun _ => hS) (fun hS' => ?_)
  clear hK K hS'
  try simp only [List.getElem_toArray, List.getElem_cons_zero, List.getElem_cons_succ, Act.put, List.setIfInBounds_toArray, List.set_cons_zero, List.set_cons_succ]
  refine wpAnyL_one (i := 12) (by kernel_rfl) rfl (fun K hK => ?_)
  go_simp
  refine hK.out _ _ (fun _ => hS) (fun hS' => ?_)
  clear hK K hS'
  try simp only [List.getElem_toArray, List.getElem_cons_zero, List.getElem_cons_succ, Act.put, List.setIfInBounds_toArray, List.set_cons_zero, List.set_cons_succ]
  refine wpAnyL_take (i := 13) (v := ?_) rfl (by kernel_rfl) (by kernel_rfl) (by kernel_rfl) (by kernel_rfl) (fun _ _ _ h => h) hS (Or.inl ⟨by rfl, ?_⟩) ?_
  rotate_left 1
  · intro w9 hw9
    obtain ⟨s0, s1, s2⟩ := hw9
    go_simp
    try with_reducible rfl
  try simp only [List.getElem_toArray, List.getElem_cons_zero, List.getElem_cons_succ, Act.put, List.setIfInBounds_toArray, List.set_cons_zero, List.set_cons_succ]
  refine wpAnyL_one (i := 14) (by kernel_rfl) rfl (fun K hK => ?_)
  go_simp
  refine hK.out _ _ (fun h => absurd rfl h) (fun hS' => ?_)
  refine wpAnyL_done (by kernel_rfl) ?_ _
  clear hS hK K hS'
  go_upto_region 6 with (fail)
  go_name_world Z3 hZ
  have HOZ3 := Lib.hid (by rw [← hZ]; exact PuOwn.setRe ⟨HOZ2.out.hp.drew, HOZ2.out.hl.drew, HOZ2.out.ne⟩ HDL2.out HK.out (j := 6) (by omega) ⟨qw, qr, qc, qS, qo + m1, ql - m2, qh + m2⟩ _ (by rw [HE2.out]; rfl) : PuOwn X.heap.size A1 nr k1 (some ⟨g, 0, none⟩) nd k2 rods (((res.set k ⟨qw, qr, qc, qS, qo + m1, ql, qh⟩).set k ⟨qw, qr, qc, qS, qo + m1, ql - m2, qh⟩).set k ⟨qw, qr, qc, qS, qo + m1, ql - m2, qh + m2⟩) Z3)
  have HBZ3 := Lib.hid (by rw [← hZ]; exact HBZ2.out.drew.far (by show w1.heap.size ≠ g; exact HGN.out.2.1) _ : Blk Z3 w1.heap.size 27 #[Value.int .i64 ir, .int .i64 glo, .int .i64 ghi, .slice A1 nr k1, .slice (some ⟨g, 0, none⟩) nd k2, .int .i64 wrg])
  have HMZ3 := Lib.hid (by rw [← hZ]; exact HMZ2.out.drew.far (by show w.heap.size + 1 ≠ g; exact HGN.out.2.2.1) _ : Blk Z3 (w.heap.size + 1) 50 #[.int .i64 xw, .int .i64 xr, .int .i64 xc, .int .i64 xs, .int .i64 xo, .int .i64 xl, .int .i64 xh, .int .i64 (k : Int), .int .i64 m1, .int .i64 m2, .int .i64 m3, .int .i64 m4, .int .i64 m5, .int .i64 m6])
  have HRZ3 := Lib.hid (by rw [← hZ]; exact HRZ2.out.drew.far (by show w.heap.size + 1 + 1 ≠ g; exact HGN.out.2.2.2) _ : Blk Z3 (w.heap.size + 1 + 1) 27 #[.int .i64 0, .int .i64 0, .int .i64 0, .slice none 0 0, .slice none 0 0, .int .i64 0])
  have BWZ3 : Below w.heap.size w Z3 := by rw [← hZ]; exact (Below.drew BWZ2).setCell (by show w.heap.size ≤ g; exact HGN.out.1) _
  clear hZ kZ gZ lZ mZ c0 c1 c2 c3 c4 c5 c6 fz lg
  clear Y3
  have HOZ := HOZ3
  rw [List.set_set, List.set_set] at HOZ
  clear HOZ3 HOZ1 HOZ2
  have HOZ3 := HOZ
  clear HOZ
  have kY := HBZ3.out.cell
  have gY := HMZ3.out.cell
  have lY := HBZ3.out.lt
  have mY := HMZ3.out.lt
  go_upto_region 8 with (go_at_call 54; refine (HIR.out A1 k1 (some ⟨g, 0, none⟩) k2 Z3).mono ?_; (rintro e w5 ⟨rfl, hb5⟩); (have HOw5 := Lib.hid (HOZ3.out.later hb5)); (have HBw5 := Lib.hid (HBZ3.out.below hb5 HBZ3.out.lt)); (have HMw5 := Lib.hid (HMZ3.out.below hb5 HMZ3.out.lt)); (have HRw5 := Lib.hid (HRZ3.out.below hb5 HRZ3.out.lt)); (have BWw5 := BWZ3.trans (hb5.mono BWZ3.size)); clear hb5 kY gY lY mY)
  have kZ := HBw5.out.cell
  have gZ := HMw5.out.cell
  have lZ := HBw5.out.lt
  have mZ := HMw5.out.lt
  have fZ := HBw5.out.frozen
  have rZ := HRw5.out.cell
  have uZ := HRw5.out.frozen
  have nZ := HRw5.out.lt
  go_upto_region 10 with (fail)
  go_name_world V hV
  have HBV := Lib.hid (by rw [← hV]; have h := ((HBw5.out.set_ 5 (.int .i64 (wrg + m5))).set_ 1 (.int .i64 (glo - m6))).set_ 2 (.int .i64 (ghi + m6)); simpa using h : Blk V w1.heap.size 27 #[.int .i64 ir, .int .i64 (glo - m6), .int .i64 (ghi + m6), .slice A1 nr k1, .slice (some ⟨g, 0, none⟩) nd k2, .int .i64 (wrg + m5)])
  have HOV := Lib.hid (by rw [← hV]; exact ((HOw5.out.far (p := ⟨w1.heap.size, 5, none⟩) _ (fun k h => (HOL.out k h).2)).far (p := ⟨w1.heap.size, 1, none⟩) _ (fun k h => (HOL.out k h).2)).far (p := ⟨w1.heap.size, 2, none⟩) _ (fun k h => (HOL.out k h).2) : PuOwn X.heap.size A1 nr k1 (some ⟨g, 0, none⟩) nd k2 rods (res.set k ⟨qw, qr, qc, qS, qo + m1, ql - m2, qh + m2⟩) V)
  have hne : w.heap.size + 1 + 1 ≠ w1.heap.size := by omega
  have HRV := Lib.hid (by rw [← hV]; exact ((HRw5.out.far (p := ⟨w1.heap.size, 5, none⟩) hne _).far (p := ⟨w1.heap.size, 1, none⟩) hne _).far (p := ⟨w1.heap.size, 2, none⟩) hne _ : Blk V (w.heap.size + 1 + 1) 27 #[.int .i64 0, .int .i64 0, .int .i64 0, .slice none 0 0, .slice none 0 0, .int .i64 0])
  have BWV : Below w.heap.size w V := by rw [← hV]; refine Below.setCell (Below.setCell (Below.setCell BWw5 ?_ _) ?_ _) ?_ _ <;> (show w.heap.size ≤ w1.heap.size; omega)
  clear hV kZ gZ lZ mZ fZ rZ uZ nZ
  have kV := HBV.out.cell
  have lV := HBV.out.lt
  have rV := HRV.out.cell
  have uV := HRV.out.frozen
  have nV := HRV.out.lt
  go_wp2_with fail
  have hbF := (((((HRV.out.set_ 0 (.int .i64 ir)).set_ 1 (.int .i64 (glo - m6))).set_ 2 (.int .i64 (ghi + m6))).set_ 3 (.slice A1 nr k1)).set_ 4 (.slice (some ⟨g, 0, none⟩) nd k2)).set_ 5 (.int .i64 (wrg + m5))
  simp only [List.setIfInBounds_toArray, List.set_cons_zero, List.set_cons_succ] at hbF
  have hOF : ∀ (u0 u1 u2 u3 u4 u5 : Value), PuOwn X.heap.size A1 nr k1 (some ⟨g, 0, none⟩) nd k2 rods (res.set k ⟨qw, qr, qc, qS, qo + m1, ql - m2, qh + m2⟩) ((((((V.setCell ⟨w.heap.size + 1 + 1, 0, none⟩ u0).setCell ⟨w.heap.size + 1 + 1, 1, none⟩ u1).setCell ⟨w.heap.size + 1 + 1, 2, none⟩ u2).setCell ⟨w.heap.size + 1 + 1, 3, none⟩ u3).setCell ⟨w.heap.size + 1 + 1, 4, none⟩ u4).setCell ⟨w.heap.size + 1 + 1, 5, none⟩ u5) := fun u0 u1 u2 u3 u4 u5 => by
    have hh : ∀ k, ((Value.slice A1 nr k1).ownBlock = some k ∨ (Value.slice (some ⟨g, 0, none⟩) nd k2).ownBlock = some k) → k ≠ w.heap.size + 1 + 1 := fun k h => by have := (HOL.out k h).1; omega
    exact (((((HOV.out.far (p := ⟨w.heap.size + 1 + 1, 0, none⟩) u0 hh).far (p := ⟨w.heap.size + 1 + 1, 1, none⟩) u1 hh).far (p := ⟨w.heap.size + 1 + 1, 2, none⟩) u2 hh).far (p := ⟨w.heap.size + 1 + 1, 3, none⟩) u3 hh).far (p := ⟨w.heap.size + 1 + 1, 4, none⟩) u4 hh).far (p := ⟨w.heap.size + 1 + 1, 5, none⟩) u5 hh
  exact bodyPost_ret (v := .agg #[.int .i64 ir, .int .i64 (glo - m6), .int .i64 (ghi + m6), .slice A1 nr k1, .slice (some ⟨g, 0, none⟩) nd k2, .int .i64 (wrg + m5)]) (results_cell_row Try.results21 _ _ (w.heap.size + 1 + 1) 27 _ (0, 0) _ rfl hbF Try.underlying27 rfl (by kernel_rfl)) rfl ⟨_, _, _, _, rfl, (hOF _ _ _ _ _ _).mono (by omega), by (repeat first | with_reducible assumption | with_reducible exact Below.refl _ _ | (with_reducible refine Below.alloc ?_ ?side _; case side => (first | omega | (with_reducible exact Below.size (by assumption)) | (simp; done) | (simp; omega))) | (with_reducible refine Below.setCell ?_ ?side _; case side => (first | omega | (with_reducible exact Below.size (by assumption)) | (simp; done) | (simp; omega))) | with_reducible refine Below.drew ?_ | with_reducible refine below_drewN ?_ _ | (with_reducible refine below_step (by assumption) ?side ?_; case side => (first | omega | (with_reducible exact Below.size (by assumption)) | (simp; done) | (simp; omega))))⟩
set_option maxRecDepth 100000 in
set_option maxHeartbeats 6400000 in
theorem wider4_01 (Ar : Option Addr) (nr cr : Nat) (Ad : Option Addr) (nd cd : Nat) (p : P4) (x : Re4) (m0 m1 m2 m3 m4 m5 m6 : Int) (w : World) (HM : MemP Ar nr Ad nd p w) (ok : Ok4 nr nd p) (h1 : 0 ≤ m1 ∧ m1 ≤ 1000) (h2 : 0 ≤ m2 ∧ m2 ≤ 1000) (h4 : 0 ≤ m4 ∧ m4 ≤ 1000) (h5 : 0 ≤ m5 ∧ m5 ≤ 1000) (h6 : 0 ≤ m6 ∧ m6 ≤ 1000) (hA : ¬ (0 ≤ m0 ∧ m0 < nd)) (hB : 0 ≤ m3 ∧ m3 < nr) :
    Calls Try.prog 21 #[.agg #[.int .i64 p.ir, .int .i64 p.glo, .int .i64 p.ghi, .slice Ar nr cr, .slice Ad nd cd, .int .i64 p.wr], .agg #[.int .i64 x.wh, .int .i64 x.rd, .int .i64 x.ct, .int .i64 x.rs, .int .i64 x.of, .int .i64 x.lo, .int .i64 x.hi, .int .i64 m0, .int .i64 m1, .int .i64 m2, .int .i64 m3, .int .i64 m4, .int .i64 m5, .int .i64 m6]] w
      fun e w' => ∃ A1 c1 A2 c2, e = .returned (.agg #[.int .i64 p.ir, .int .i64 (p.glo - m6), .int .i64 (p.ghi + m6), .slice A1 nr c1, .slice A2 nd c2, .int .i64 (p.wr + m5)]) ∧ PuOwn w.heap.size A1 nr c1 A2 nd c2 (wdRs p.rods m3 m4) (wdDs p.res m0 m1 m2) w' ∧ Below w.heap.size w w' := by
  have hnr4 := ok.nr4
  have hnd8 := ok.nd8
  have HCP := Lib.hid (fun V (hV : Below w.heap.size w V) => Copy4_c Ar nr cr Ad nd cd p V (by omega) (by omega) (HM.later hV))
  have hr := ok.lr
  have hd := ok.ld
  have hg := ok.g
  have hwr := ok.wr
  have HRE := Lib.hid ok.re
  have HRO := Lib.hid ok.ro
  clear ok HM
  obtain ⟨ir, glo, ghi, wrg, rods, res⟩ := p
  obtain ⟨xw, xr, xc, xs, xo, xl, xh⟩ := x
  simp only at HCP hr hd hg hwr HRE HRO ⊢
  have V5 : IntKind.i64.wrap (wrg + m5) = wrg + m5 := IntWalk.i64_in _ (by omega)
  have V6 : IntKind.i64.wrap (glo - m6) = glo - m6 := IntWalk.i64_in _ (by omega)
  have V7 : IntKind.i64.wrap (ghi + m6) = ghi + m6 := IntWalk.i64_in _ (by omega)
  have HRL := Lib.hid hr
  have HDL := Lib.hid hd
  have HIR := fun A1 k1 A2 k2 V => isRod4_c ir glo ghi wrg A1 nr k1 A2 nd k2 m3 V (by omega)
  have hRs : wdRs rods m3 m4 = if 0 ≤ m3 ∧ m3 < nr then rods.set m3.toNat (wdRo (roAt rods m3.toNat) m4) else rods := by unfold wdRs; rw [hr]
  have hDs : wdDs res m0 m1 m2 = if 0 ≤ m0 ∧ m0 < nd then res.set m0.toNat (wdRe (reAt res m0.toNat) m1 m2) else res := by unfold wdDs; rw [hd]
  rw [hRs, hDs]
  clear hRs hDs hr hd
  rw [if_pos hB, if_neg hA]
  have a0 : (decide ((0 : Int) ≤ m0) = true ∧ decide (m0 < (nd : Int)) = false) ∨ decide ((0 : Int) ≤ m0) = false := by
    by_cases h : 0 ≤ m0
    · exact .inl ⟨decide_eq_true h, decide_eq_false (by omega)⟩
    · exact .inr (decide_eq_false h)
  clear hA HRE
  obtain ⟨r, rfl⟩ : ∃ r : Nat, m3 = r := ⟨m3.toNat, by omega⟩
  have hkr : r < nr := by omega
  rw [Int.toNat_natCast]
  have HKr := Lib.hid hkr
  rw [show wn (r : Int) 0 ((nr : Int) - 1) = true from wn_true.2 (by omega)] at HIR
  replace HIR := Lib.hid HIR
  have hro := HRO.out r hkr
  obtain ⟨⟨dl, dw, dg⟩, hrk⟩ : ∃ y, roAt rods r = y := ⟨_, rfl⟩
  rw [hrk] at hro ⊢
  simp only [wdRo] at hro ⊢
  have HF0 := Lib.hid hrk
  have VB := Lib.hid (IntWalk.i64_in (dw + m4) (by omega) : IntKind.i64.wrap (dw + m4) = dw + m4)
  clear hB hro hrk HRO
  rcases a0 with ⟨a1B, a2B⟩ | a1B
  all_goals
    skip
    go_enter Try.func21, Try.ntmps21
    go_upto_region 1 with (fail)
    go_name_world X hX
    have BX : Below w.heap.size w X := (al3 hX).1
    have zX := (al3 hX).2
    have qX0 := (al3_0 hX).2.1
    have lX0 := (al3_0 hX).1
    have HMX : Hid (Blk X (w.heap.size + 1) 50 #[.int .i64 xw, .int .i64 xr, .int .i64 xc, .int .i64 xs, .int .i64 xo, .int .i64 xl, .int .i64 xh, .int .i64 m0, .int .i64 m1, .int .i64 m2, .int .i64 (r : Int), .int .i64 m4, .int .i64 m5, .int .i64 m6]) := by
      rw [← hX]
      have := Blk.new (w.alloc (.cells #[.int .i64 ir, .int .i64 glo, .int .i64 ghi, .slice Ar nr cr, .slice Ad nd cd, .int .i64 wrg] 27)) 50 #[.int .i64 xw, .int .i64 xr, .int .i64 xc, .int .i64 xs, .int .i64 xo, .int .i64 xl, .int .i64 xh, .int .i64 m0, .int .i64 m1, .int .i64 m2, .int .i64 (r : Int), .int .i64 m4, .int .i64 m5, .int .i64 m6]
      rw [World.size_alloc] at this
      exact Lib.hid (this.alloc _)
    have HRX : Hid (Blk X (w.heap.size + 1 + 1) 27 #[.int .i64 0, .int .i64 0, .int .i64 0, .slice none 0 0, .slice none 0 0, .int .i64 0]) := by
      rw [← hX]
      have := Blk.new ((w.alloc (.cells #[.int .i64 ir, .int .i64 glo, .int .i64 ghi, .slice Ar nr cr, .slice Ad nd cd, .int .i64 wrg] 27)).alloc (.cells #[.int .i64 xw, .int .i64 xr, .int .i64 xc, .int .i64 xs, .int .i64 xo, .int .i64 xl, .int .i64 xh, .int .i64 m0, .int .i64 m1, .int .i64 m2, .int .i64 (r : Int), .int .i64 m4, .int .i64 m5, .int .i64 m6] 50)) 27 #[.int .i64 0, .int .i64 0, .int .i64 0, .slice none 0 0, .slice none 0 0, .int .i64 0]
      simp only [World.size_alloc] at this
      exact Lib.hid this
    have ZX := Lib.hid zX
    clear hX zX
    go_upto_region 2 with (go_at_call 11; refine (HCP.out X BX).mono ?_; (rintro e w1 ⟨A1, k1, A2, k2, rfl, hO, hb1⟩); (have z1 := hb1.size); (have HM1 := Lib.hid (HMX.out.below hb1 HMX.out.lt)); (have HR1 := Lib.hid (HRX.out.below hb1 HRX.out.lt)); (have B1 := BX.trans (hb1.mono BX.size)); (have HO1 := Lib.hid hO); clear hb1 hO qX0 lX0)
    go_name_world Y hY
    have bY : Below w1.heap.size w1 Y := (al1 hY).1
    have HOY := Lib.hid (HO1.out.later bY)
    have HMY := Lib.hid (HM1.out.below bY HM1.out.lt)
    have HRY := Lib.hid (HR1.out.below bY HR1.out.lt)
    have BWY := B1.trans (bY.mono B1.size)
    have HBY : Hid (Blk Y w1.heap.size 27 #[.int .i64 ir, .int .i64 glo, .int .i64 ghi, .slice A1 nr k1, .slice A2 nd k2, .int .i64 wrg]) := by rw [← hY]; exact Lib.hid (Blk.new _ _ _)
    have HOL : Hid (∀ k, ((Value.slice A1 nr k1).ownBlock = some k ∨ (Value.slice A2 nd k2).ownBlock = some k) → X.heap.size ≤ k ∧ k ≠ w1.heap.size) := Lib.hid (fun k h => by have := HO1.out.blocks k h; omega)
    have hX2 : w.heap.size + 1 + 1 < X.heap.size := by have := ZX.out; omega
    have hw1 : X.heap.size ≤ w1.heap.size := z1
    have kY := HBY.out.cell
    have gY := HMY.out.cell
    have lY := HBY.out.lt
    have mY := HMY.out.lt
    clear hY bY HM1 HR1
    go_upto_region 7 with (go_at_call 54; refine (HIR.out A1 k1 A2 k2 Y).mono ?_; (rintro e w5 ⟨rfl, hb5⟩); (have HOw5 := Lib.hid (HOY.out.later hb5)); (have HBw5 := Lib.hid (HBY.out.below hb5 HBY.out.lt)); (have HMw5 := Lib.hid (HMY.out.below hb5 HMY.out.lt)); (have HRw5 := Lib.hid (HRY.out.below hb5 HRY.out.lt)); (have BWw5 := BWY.trans (hb5.mono BWY.size)); clear hb5 kY gY lY mY)
    obtain ⟨g, k1', e1, hg0, hg1⟩ := HOw5.out.hp.form (by omega)
    cases e1
    have HGN : Hid (w.heap.size ≤ g ∧ w1.heap.size ≠ g ∧ w.heap.size + 1 ≠ g ∧ w.heap.size + 1 + 1 ≠ g) := Lib.hid (by have := (HOL.out g (.inl rfl)).2; omega)
    clear hg0 hg1
    have Y4 := VB.out
    have kZ := HBw5.out.cell
    have gZ := HMw5.out.cell
    have lZ := HBw5.out.lt
    have mZ := HMw5.out.lt
    obtain ⟨c0, c1, c2, fz, lg⟩ := HOw5.out.rodC HRL.out HKr.out
    rw [HF0.out] at c0 c1 c2
    simp only at c0 c1 c2
    go_upto_region 7 with (fail)
    have hS : (∀ j, w5.drew.cell? ⟨w1.heap.size, j, none⟩ = #[Value.int .i64 ir, .int .i64 glo, .int .i64 ghi, .slice (some ⟨g, 0, none⟩) nr k1, .slice A2 nd k2, .int .i64 wrg][j]?) ∧ (∀ j, w5.drew.cell? ⟨w.heap.size + 1, j, none⟩ = #[Value.int .i64 xw, .int .i64 xr, .int .i64 xc, .int .i64 xs, .int .i64 xo, .int .i64 xl, .int .i64 xh, .int .i64 m0, .int .i64 m1, .int .i64 m2, .int .i64 (r : Int), .int .i64 m4, .int .i64 m5, .int .i64 m6][j]?) ∧ w5.drew.cell? ⟨g, r * 3 + 1, none⟩ = some (.int .i64 dw) := ⟨fun j => kZ j, fun j => gZ j, c1⟩
    refine wp_region_L (by kernel_rfl) (fun W' => (∀ j, W'.cell? ⟨w1.heap.size, j, none⟩ = #[Value.int .i64 ir, .int .i64 glo, .int .i64 ghi, .slice (some ⟨g, 0, none⟩) nr k1, .slice A2 nd k2, .int .i64 wrg][j]?) ∧ (∀ j, W'.cell? ⟨w.heap.size + 1, j, none⟩ = #[Value.int .i64 xw, .int .i64 xr, .int .i64 xc, .int .i64 xs, .int .i64 xo, .int .i64 xl, .int .i64 xh, .int .i64 m0, .int .i64 m1, .int .i64 m2, .int .i64 (r : Int), .int .i64 m4, .int .i64 m5, .int .i64 m6][j]?) ∧ W'.cell? ⟨g, r * 3 + 1, none⟩ = some (.int .i64 dw)) 12 ?_
    refine wpAnyL_take (i := 0) (v := ?_) rfl (by kernel_rfl) (by kernel_rfl) (by kernel_rfl) (by kernel_rfl) (fun _ _ _ h => h) hS (Or.inl ⟨by rfl, ?_⟩) ?_
    rotate_left 1
    · intro w9 hw9
      obtain ⟨s0, s1, s2⟩ := hw9
      go_simp
      try with_reducible rfl
    try simp only [List.getElem_toArray, List.getElem_cons_zero, Act.put, List.setIfInBounds_toArray, List.set_cons_zero, List.set_cons_succ]
    refine wpAnyL_take (i := 1) (v := ?_) rfl (by kernel_rfl) (by kernel_rfl) (by kernel_rfl) (by kernel_rfl) (fun _ _ _ h => h) hS (Or.inl ⟨by rfl, ?_⟩) ?_
    rotate_left 1
    · intro w9 hw9
      obtain ⟨s0, s1, s2⟩ := hw9
      go_simp
      try with_reducible rfl
    try simp only [List.getElem_toArray, List.getElem_cons_zero, List.getElem_cons_succ, Act.put, List.setIfInBounds_toArray, List.set_cons_zero, List.set_cons_succ]
    refine wpAnyL_take (i := 2) (v := ?_) rfl (by kernel_rfl) (by kernel_rfl) (by kernel_rfl) (by kernel_rfl) (fun _ _ _ h => h) hS (Or.inl ⟨by rfl, ?_⟩) ?_
    rotate_left 1
    · intro w9 hw9
      obtain ⟨s0, s1, s2⟩ := hw9
      go_simp
      try with_reducible rfl
    try simp only [List.getElem_toArray, List.getElem_cons_zero, List.getElem_cons_succ, Act.put, List.setIfInBounds_toArray, List.set_cons_zero, List.set_cons_succ]
    refine wpAnyL_take (i := 3) (v := ?_) rfl (by kernel_rfl) (by kernel_rfl) (by kernel_rfl) (by kernel_rfl) (fun _ _ _ h => h) hS (Or.inl ⟨by rfl, ?_⟩) ?_
    rotate_left 1
    · intro w9 hw9
      obtain ⟨s0, s1, s2⟩ := hw9
      go_simp
      try with_reducible rfl
    try simp only [List.getElem_toArray, List.getElem_cons_zero, List.getElem_cons_succ, Act.put, List.setIfInBounds_toArray, List.set_cons_zero, List.set_cons_succ]
    refine wpAnyL_take (i := 4) (v := ?_) rfl (by kernel_rfl) (by kernel_rfl) (by kernel_rfl) (by kernel_rfl) (fun _ _ _ h => h) hS (Or.inl ⟨by rfl, ?_⟩) ?_
    rotate_left 1
    · intro w9 hw9
      obtain ⟨s0, s1, s2⟩ := hw9
      go_simp
      try with_reducible rfl
    try simp only [List.getElem_toArray, List.getElem_cons_zero, List.getElem_cons_succ, Act.put, List.setIfInBounds_toArray, List.set_cons_zero, List.set_cons_succ]
    refine wpAnyL_take (i := 5) (v := ?_) rfl (by kernel_rfl) (by kernel_rfl) (by kernel_rfl) (by kernel_rfl) (fun _ _ _ h => h) hS (Or.inl ⟨by rfl, ?_⟩) ?_
    rotate_left 1
    · intro w9 hw9
      obtain ⟨s0, s1, s2⟩ := hw9
      go_simp
      try with_reducible rfl
    try simp only [List.getElem_toArray, List.getElem_cons_zero, List.getElem_cons_succ, Act.put, List.setIfInBounds_toArray, List.set_cons_zero, List.set_cons_succ]
    refine wpAnyL_take (i := 6) (v := ?_) rfl (by kernel_rfl) (by kernel_rfl) (by kernel_rfl) (by kernel_rfl) (fun _ _ _ h => h) hS (Or.inl ⟨by rfl, ?_⟩) ?_
    rotate_left 1
    · intro w9 hw9
      obtain ⟨s0, s1, s2⟩ := hw9
      go_simp
      try with_reducible rfl
    try simp only [List.getElem_toArray, List.getElem_cons_zero, List.getElem_cons_succ, Act.put, List.setIfInBounds_toArray, List.set_cons_zero, List.set_cons_succ]
    refine wpAnyL_take (i := 7) (v := ?_) rfl (by kernel_rfl) (by kernel_rfl) (by kernel_rfl) (by kernel_rfl) (fun _ _ _ h => h) hS (Or.inl ⟨by rfl, ?_⟩) ?_
    rotate_left 1
    · intro w9 hw9
      obtain ⟨s0, s1, s2⟩ := hw9
      go_simp
      try with_reducible rfl
    try simp only [List.getElem_toArray, List.getElem_cons_zero, List.getElem_cons_succ, Act.put, List.setIfInBounds_toArray, List.set_cons_zero, List.set_cons_succ]
    refine wpAnyL_take (i := 8) (v := ?_) rfl (by kernel_rfl) (by kernel_rfl) (by kernel_rfl) (by kernel_rfl) (fun _ _ _ h => h) hS (Or.inl ⟨by rfl, ?_⟩) ?_
    rotate_left 1
    · intro w9 hw9
      obtain ⟨s0, s1, s2⟩ := hw9
      go_simp
      try with_reducible rfl
    try simp only [List.getElem_toArray, List.getElem_cons_zero, List.getElem_cons_succ, Act.put, List.setIfInBounds_toArray, List.set_cons_zero, List.set_cons_succ]
    refine wpAnyL_take (i := 9) (v := ?_) rfl (by kernel_rfl) (by kernel_rfl) (by kernel_rfl) (by kernel_rfl) (fun _ _ _ h => h) hS (Or.inl ⟨by rfl, ?_⟩) ?_
    rotate_left 1
    · intro w9 hw9
      obtain ⟨s0, s1, s2⟩ := hw9
      go_simp
      try with_reducible rfl
    try simp only [List.getElem_toArray, List.getElem_cons_zero, List.getElem_cons_succ, Act.put, List.setIfInBounds_toArray, List.set_cons_zero, List.set_cons_succ]
    refine wpAnyL_one (i := 10) (by kernel_rfl) rfl (fun K hK => ?_)
    go_simp
    refine hK.out _ _ (fun _ => hS) (fun hS' => ?_)
    clear hK K hS'
    try simp only [List.getElem_toArray, List.getElem_cons_zero, List.getElem_cons_succ, Act.put, List.setIfInBounds_toArray, List.set_cons_zero, List.set_cons_succ]
    refine wpAnyL_take (i := 11) (v := ?_) rfl (by kernel_rfl) (by kernel_rfl) (by kernel_rfl) (by kernel_rfl) (fun _ _ _ h => h) hS (Or.inl ⟨by rfl, ?_⟩) ?_
    rotate_left 1
    · intro w9 hw9
      obtain ⟨s0, s1, s2⟩ := hw9
      go_simp
      try with_reducible rfl
    try simp only [List.getElem_toArray, List.getElem_cons_zero, List.getElem_cons_succ, Act.put, List.setIfInBounds_toArray, List.set_cons_zero, List.set_cons_succ]
    refine wpAnyL_one (i := 12) (by kernel_rfl) rfl (fun K hK => ?_)
    go_simp
    refine hK.out _ _ (fun h => absurd rfl h) (fun hS' => ?_)
    refine wpAnyL_done (by kernel_rfl) ?_ _
    clear hS hK K hS'
    go_upto_region 8 with (fail)
    go_name_world Z4 hZ
    have HOZ4 := Lib.hid (by rw [← hZ]; exact PuOwn.setRod ⟨HOw5.out.hp.drew, HOw5.out.hl.drew, HOw5.out.ne⟩ HRL.out HKr.out (j := 1) (by omega) ⟨dl, dw + m4, dg⟩ _ (by rw [HF0.out]; rfl) : PuOwn X.heap.size (some ⟨g, 0, none⟩) nr k1 A2 nd k2 (rods.set r ⟨dl, dw + m4, dg⟩) res Z4)
    have HBZ4 := Lib.hid (by rw [← hZ]; exact HBw5.out.drew.far (by show w1.heap.size ≠ g; exact HGN.out.2.1) _ : Blk Z4 w1.heap.size 27 #[Value.int .i64 ir, .int .i64 glo, .int .i64 ghi, .slice (some ⟨g, 0, none⟩) nr k1, .slice A2 nd k2, .int .i64 wrg])
    have HMZ4 := Lib.hid (by rw [← hZ]; exact HMw5.out.drew.far (by show w.heap.size + 1 ≠ g; exact HGN.out.2.2.1) _ : Blk Z4 (w.heap.size + 1) 50 #[.int .i64 xw, .int .i64 xr, .int .i64 xc, .int .i64 xs, .int .i64 xo, .int .i64 xl, .int .i64 xh, .int .i64 m0, .int .i64 m1, .int .i64 m2, .int .i64 (r : Int), .int .i64 m4, .int .i64 m5, .int .i64 m6])
    have HRZ4 := Lib.hid (by rw [← hZ]; exact HRw5.out.drew.far (by show w.heap.size + 1 + 1 ≠ g; exact HGN.out.2.2.2) _ : Blk Z4 (w.heap.size + 1 + 1) 27 #[.int .i64 0, .int .i64 0, .int .i64 0, .slice none 0 0, .slice none 0 0, .int .i64 0])
    have BWZ4 : Below w.heap.size w Z4 := by rw [← hZ]; exact (Below.drew BWw5).setCell (by show w.heap.size ≤ g; exact HGN.out.1) _
    clear hZ kZ gZ lZ mZ c0 c1 c2 fz lg
    clear Y4
    have kZ := HBZ4.out.cell
    have gZ := HMZ4.out.cell
    have lZ := HBZ4.out.lt
    have mZ := HMZ4.out.lt
    have fZ := HBZ4.out.frozen
    have rZ := HRZ4.out.cell
    have uZ := HRZ4.out.frozen
    have nZ := HRZ4.out.lt
    go_upto_region 10 with (fail)
    go_name_world V hV
    have HBV := Lib.hid (by rw [← hV]; have h := ((HBZ4.out.set_ 5 (.int .i64 (wrg + m5))).set_ 1 (.int .i64 (glo - m6))).set_ 2 (.int .i64 (ghi + m6)); simpa using h : Blk V w1.heap.size 27 #[.int .i64 ir, .int .i64 (glo - m6), .int .i64 (ghi + m6), .slice (some ⟨g, 0, none⟩) nr k1, .slice A2 nd k2, .int .i64 (wrg + m5)])
    have HOV := Lib.hid (by rw [← hV]; exact ((HOZ4.out.far (p := ⟨w1.heap.size, 5, none⟩) _ (fun k h => (HOL.out k h).2)).far (p := ⟨w1.heap.size, 1, none⟩) _ (fun k h => (HOL.out k h).2)).far (p := ⟨w1.heap.size, 2, none⟩) _ (fun k h => (HOL.out k h).2) : PuOwn X.heap.size (some ⟨g, 0, none⟩) nr k1 A2 nd k2 (rods.set r ⟨dl, dw + m4, dg⟩) res V)
    have hne : w.heap.size + 1 + 1 ≠ w1.heap.size := by omega
    have HRV := Lib.hid (by rw [← hV]; exact ((HRZ4.out.far (p := ⟨w1.heap.size, 5, none⟩) hne _).far (p := ⟨w1.heap.size, 1, none⟩) hne _).far (p := ⟨w1.heap.size, 2, none⟩) hne _ : Blk V (w.heap.size + 1 + 1) 27 #[.int .i64 0, .int .i64 0, .int .i64 0, .slice none 0 0, .slice none 0 0, .int .i64 0])
    have BWV : Below w.heap.size w V := by rw [← hV]; refine Below.setCell (Below.setCell (Below.setCell BWZ4 ?_ _) ?_ _) ?_ _ <;> (show w.heap.size ≤ w1.heap.size; omega)
    clear hV kZ gZ lZ mZ fZ rZ uZ nZ
    have kV := HBV.out.cell
    have lV := HBV.out.lt
    have rV := HRV.out.cell
    have uV := HRV.out.frozen
    have nV := HRV.out.lt
    go_wp2_with fail
    have hbF := (((((HRV.out.set_ 0 (.int .i64 ir)).set_ 1 (.int .i64 (glo - m6))).set_ 2 (.int .i64 (ghi + m6))).set_ 3 (.slice (some ⟨g, 0, none⟩) nr k1)).set_ 4 (.slice A2 nd k2)).set_ 5 (.int .i64 (wrg + m5))
    simp only [List.setIfInBounds_toArray, List.set_cons_zero, List.set_cons_succ] at hbF
    have hOF : ∀ (u0 u1 u2 u3 u4 u5 : Value), PuOwn X.heap.size (some ⟨g, 0, none⟩) nr k1 A2 nd k2 (rods.set r ⟨dl, dw + m4, dg⟩) res ((((((V.setCell ⟨w.heap.size + 1 + 1, 0, none⟩ u0).setCell ⟨w.heap.size + 1 + 1, 1, none⟩ u1).setCell ⟨w.heap.size + 1 + 1, 2, none⟩ u2).setCell ⟨w.heap.size + 1 + 1, 3, none⟩ u3).setCell ⟨w.heap.size + 1 + 1, 4, none⟩ u4).setCell ⟨w.heap.size + 1 + 1, 5, none⟩ u5) := fun u0 u1 u2 u3 u4 u5 => by
      have hh : ∀ k, ((Value.slice (some ⟨g, 0, none⟩) nr k1).ownBlock = some k ∨ (Value.slice A2 nd k2).ownBlock = some k) → k ≠ w.heap.size + 1 + 1 := fun k h => by have := (HOL.out k h).1; omega
      exact (((((HOV.out.far (p := ⟨w.heap.size + 1 + 1, 0, none⟩) u0 hh).far (p := ⟨w.heap.size + 1 + 1, 1, none⟩) u1 hh).far (p := ⟨w.heap.size + 1 + 1, 2, none⟩) u2 hh).far (p := ⟨w.heap.size + 1 + 1, 3, none⟩) u3 hh).far (p := ⟨w.heap.size + 1 + 1, 4, none⟩) u4 hh).far (p := ⟨w.heap.size + 1 + 1, 5, none⟩) u5 hh
    exact bodyPost_ret (v := .agg #[.int .i64 ir, .int .i64 (glo - m6), .int .i64 (ghi + m6), .slice (some ⟨g, 0, none⟩) nr k1, .slice A2 nd k2, .int .i64 (wrg + m5)]) (results_cell_row Try.results21 _ _ (w.heap.size + 1 + 1) 27 _ (0, 0) _ rfl hbF Try.underlying27 rfl (by kernel_rfl)) rfl ⟨_, _, _, _, rfl, (hOF _ _ _ _ _ _).mono (by omega), by (repeat first | with_reducible assumption | with_reducible exact Below.refl _ _ | (with_reducible refine Below.alloc ?_ ?side _; case side => (first | omega | (with_reducible exact Below.size (by assumption)) | (simp; done) | (simp; omega))) | (with_reducible refine Below.setCell ?_ ?side _; case side => (first | omega | (with_reducible exact Below.size (by assumption)) | (simp; done) | (simp; omega))) | with_reducible refine Below.drew ?_ | with_reducible refine below_drewN ?_ _ | (with_reducible refine below_step (by assumption) ?side ?_; case side => (first | omega | (with_reducible exact Below.size (by assumption)) | (simp; done) | (simp; omega))))⟩
set_option maxRecDepth 100000 in
set_option maxHeartbeats 6400000 in
theorem wider4_00 (Ar : Option Addr) (nr cr : Nat) (Ad : Option Addr) (nd cd : Nat) (p : P4) (x : Re4) (m0 m1 m2 m3 m4 m5 m6 : Int) (w : World) (HM : MemP Ar nr Ad nd p w) (ok : Ok4 nr nd p) (h1 : 0 ≤ m1 ∧ m1 ≤ 1000) (h2 : 0 ≤ m2 ∧ m2 ≤ 1000) (h4 : 0 ≤ m4 ∧ m4 ≤ 1000) (h5 : 0 ≤ m5 ∧ m5 ≤ 1000) (h6 : 0 ≤ m6 ∧ m6 ≤ 1000) (hA : ¬ (0 ≤ m0 ∧ m0 < nd)) (hB : ¬ (0 ≤ m3 ∧ m3 < nr)) :
    Calls Try.prog 21 #[.agg #[.int .i64 p.ir, .int .i64 p.glo, .int .i64 p.ghi, .slice Ar nr cr, .slice Ad nd cd, .int .i64 p.wr], .agg #[.int .i64 x.wh, .int .i64 x.rd, .int .i64 x.ct, .int .i64 x.rs, .int .i64 x.of, .int .i64 x.lo, .int .i64 x.hi, .int .i64 m0, .int .i64 m1, .int .i64 m2, .int .i64 m3, .int .i64 m4, .int .i64 m5, .int .i64 m6]] w
      fun e w' => ∃ A1 c1 A2 c2, e = .returned (.agg #[.int .i64 p.ir, .int .i64 (p.glo - m6), .int .i64 (p.ghi + m6), .slice A1 nr c1, .slice A2 nd c2, .int .i64 (p.wr + m5)]) ∧ PuOwn w.heap.size A1 nr c1 A2 nd c2 (wdRs p.rods m3 m4) (wdDs p.res m0 m1 m2) w' ∧ Below w.heap.size w w' := by
  have hnr4 := ok.nr4
  have hnd8 := ok.nd8
  have HCP := Lib.hid (fun V (hV : Below w.heap.size w V) => Copy4_c Ar nr cr Ad nd cd p V (by omega) (by omega) (HM.later hV))
  have hr := ok.lr
  have hd := ok.ld
  have hg := ok.g
  have hwr := ok.wr
  have HRE := Lib.hid ok.re
  have HRO := Lib.hid ok.ro
  clear ok HM
  obtain ⟨ir, glo, ghi, wrg, rods, res⟩ := p
  obtain ⟨xw, xr, xc, xs, xo, xl, xh⟩ := x
  simp only at HCP hr hd hg hwr HRE HRO ⊢
  have V5 : IntKind.i64.wrap (wrg + m5) = wrg + m5 := IntWalk.i64_in _ (by omega)
  have V6 : IntKind.i64.wrap (glo - m6) = glo - m6 := IntWalk.i64_in _ (by omega)
  have V7 : IntKind.i64.wrap (ghi + m6) = ghi + m6 := IntWalk.i64_in _ (by omega)
  have HRL := Lib.hid hr
  have HDL := Lib.hid hd
  have HIR := fun A1 k1 A2 k2 V => isRod4_c ir glo ghi wrg A1 nr k1 A2 nd k2 m3 V (by omega)
  have hRs : wdRs rods m3 m4 = if 0 ≤ m3 ∧ m3 < nr then rods.set m3.toNat (wdRo (roAt rods m3.toNat) m4) else rods := by unfold wdRs; rw [hr]
  have hDs : wdDs res m0 m1 m2 = if 0 ≤ m0 ∧ m0 < nd then res.set m0.toNat (wdRe (reAt res m0.toNat) m1 m2) else res := by unfold wdDs; rw [hd]
  rw [hRs, hDs]
  clear hRs hDs hr hd
  rw [if_neg hB, if_neg hA]
  have a0 : (decide ((0 : Int) ≤ m0) = true ∧ decide (m0 < (nd : Int)) = false) ∨ decide ((0 : Int) ≤ m0) = false := by
    by_cases h : 0 ≤ m0
    · exact .inl ⟨decide_eq_true h, decide_eq_false (by omega)⟩
    · exact .inr (decide_eq_false h)
  clear hA HRE
  rw [show wn m3 0 ((nr : Int) - 1) = false by cases e : wn m3 0 ((nr : Int) - 1) with | false => rfl | true => exact absurd (wn_true.1 e) (by omega)] at HIR
  replace HIR := Lib.hid HIR
  clear hB HRO
  rcases a0 with ⟨a1B, a2B⟩ | a1B
  all_goals
    skip
    go_enter Try.func21, Try.ntmps21
    go_upto_region 1 with (fail)
    go_name_world X hX
    have BX : Below w.heap.size w X := (al3 hX).1
    have zX := (al3 hX).2
    have qX0 := (al3_0 hX).2.1
    have lX0 := (al3_0 hX).1
    have HMX : Hid (Blk X (w.heap.size + 1) 50 #[.int .i64 xw, .int .i64 xr, .int .i64 xc, .int .i64 xs, .int .i64 xo, .int .i64 xl, .int .i64 xh, .int .i64 m0, .int .i64 m1, .int .i64 m2, .int .i64 m3, .int .i64 m4, .int .i64 m5, .int .i64 m6]) := by
      rw [← hX]
      have := Blk.new (w.alloc (.cells #[.int .i64 ir, .int .i64 glo, .int .i64 ghi, .slice Ar nr cr, .slice Ad nd cd, .int .i64 wrg] 27)) 50 #[.int .i64 xw, .int .i64 xr, .int .i64 xc, .int .i64 xs, .int .i64 xo, .int .i64 xl, .int .i64 xh, .int .i64 m0, .int .i64 m1, .int .i64 m2, .int .i64 m3, .int .i64 m4, .int .i64 m5, .int .i64 m6]
      rw [World.size_alloc] at this
      exact Lib.hid (this.alloc _)
    have HRX : Hid (Blk X (w.heap.size + 1 + 1) 27 #[.int .i64 0, .int .i64 0, .int .i64 0, .slice none 0 0, .slice none 0 0, .int .i64 0]) := by
      rw [← hX]
      have := Blk.new ((w.alloc (.cells #[.int .i64 ir, .int .i64 glo, .int .i64 ghi, .slice Ar nr cr, .slice Ad nd cd, .int .i64 wrg] 27)).alloc (.cells #[.int .i64 xw, .int .i64 xr, .int .i64 xc, .int .i64 xs, .int .i64 xo, .int .i64 xl, .int .i64 xh, .int .i64 m0, .int .i64 m1, .int .i64 m2, .int .i64 m3, .int .i64 m4, .int .i64 m5, .int .i64 m6] 50)) 27 #[.int .i64 0, .int .i64 0, .int .i64 0, .slice none 0 0, .slice none 0 0, .int .i64 0]
      simp only [World.size_alloc] at this
      exact Lib.hid this
    have ZX := Lib.hid zX
    clear hX zX
    go_upto_region 2 with (go_at_call 11; refine (HCP.out X BX).mono ?_; (rintro e w1 ⟨A1, k1, A2, k2, rfl, hO, hb1⟩); (have z1 := hb1.size); (have HM1 := Lib.hid (HMX.out.below hb1 HMX.out.lt)); (have HR1 := Lib.hid (HRX.out.below hb1 HRX.out.lt)); (have B1 := BX.trans (hb1.mono BX.size)); (have HO1 := Lib.hid hO); clear hb1 hO qX0 lX0)
    go_name_world Y hY
    have bY : Below w1.heap.size w1 Y := (al1 hY).1
    have HOY := Lib.hid (HO1.out.later bY)
    have HMY := Lib.hid (HM1.out.below bY HM1.out.lt)
    have HRY := Lib.hid (HR1.out.below bY HR1.out.lt)
    have BWY := B1.trans (bY.mono B1.size)
    have HBY : Hid (Blk Y w1.heap.size 27 #[.int .i64 ir, .int .i64 glo, .int .i64 ghi, .slice A1 nr k1, .slice A2 nd k2, .int .i64 wrg]) := by rw [← hY]; exact Lib.hid (Blk.new _ _ _)
    have HOL : Hid (∀ k, ((Value.slice A1 nr k1).ownBlock = some k ∨ (Value.slice A2 nd k2).ownBlock = some k) → X.heap.size ≤ k ∧ k ≠ w1.heap.size) := Lib.hid (fun k h => by have := HO1.out.blocks k h; omega)
    have hX2 : w.heap.size + 1 + 1 < X.heap.size := by have := ZX.out; omega
    have hw1 : X.heap.size ≤ w1.heap.size := z1
    have kY := HBY.out.cell
    have gY := HMY.out.cell
    have lY := HBY.out.lt
    have mY := HMY.out.lt
    clear hY bY HM1 HR1
    go_upto_region 8 with (go_at_call 54; refine (HIR.out A1 k1 A2 k2 Y).mono ?_; (rintro e w5 ⟨rfl, hb5⟩); (have HOw5 := Lib.hid (HOY.out.later hb5)); (have HBw5 := Lib.hid (HBY.out.below hb5 HBY.out.lt)); (have HMw5 := Lib.hid (HMY.out.below hb5 HMY.out.lt)); (have HRw5 := Lib.hid (HRY.out.below hb5 HRY.out.lt)); (have BWw5 := BWY.trans (hb5.mono BWY.size)); clear hb5 kY gY lY mY)
    have kZ := HBw5.out.cell
    have gZ := HMw5.out.cell
    have lZ := HBw5.out.lt
    have mZ := HMw5.out.lt
    have fZ := HBw5.out.frozen
    have rZ := HRw5.out.cell
    have uZ := HRw5.out.frozen
    have nZ := HRw5.out.lt
    go_upto_region 10 with (fail)
    go_name_world V hV
    have HBV := Lib.hid (by rw [← hV]; have h := ((HBw5.out.set_ 5 (.int .i64 (wrg + m5))).set_ 1 (.int .i64 (glo - m6))).set_ 2 (.int .i64 (ghi + m6)); simpa using h : Blk V w1.heap.size 27 #[.int .i64 ir, .int .i64 (glo - m6), .int .i64 (ghi + m6), .slice A1 nr k1, .slice A2 nd k2, .int .i64 (wrg + m5)])
    have HOV := Lib.hid (by rw [← hV]; exact ((HOw5.out.far (p := ⟨w1.heap.size, 5, none⟩) _ (fun k h => (HOL.out k h).2)).far (p := ⟨w1.heap.size, 1, none⟩) _ (fun k h => (HOL.out k h).2)).far (p := ⟨w1.heap.size, 2, none⟩) _ (fun k h => (HOL.out k h).2) : PuOwn X.heap.size A1 nr k1 A2 nd k2 rods res V)
    have hne : w.heap.size + 1 + 1 ≠ w1.heap.size := by omega
    have HRV := Lib.hid (by rw [← hV]; exact ((HRw5.out.far (p := ⟨w1.heap.size, 5, none⟩) hne _).far (p := ⟨w1.heap.size, 1, none⟩) hne _).far (p := ⟨w1.heap.size, 2, none⟩) hne _ : Blk V (w.heap.size + 1 + 1) 27 #[.int .i64 0, .int .i64 0, .int .i64 0, .slice none 0 0, .slice none 0 0, .int .i64 0])
    have BWV : Below w.heap.size w V := by rw [← hV]; refine Below.setCell (Below.setCell (Below.setCell BWw5 ?_ _) ?_ _) ?_ _ <;> (show w.heap.size ≤ w1.heap.size; omega)
    clear hV kZ gZ lZ mZ fZ rZ uZ nZ
    have kV := HBV.out.cell
    have lV := HBV.out.lt
    have rV := HRV.out.cell
    have uV := HRV.out.frozen
    have nV := HRV.out.lt
    go_wp2_with fail
    have hbF := (((((HRV.out.set_ 0 (.int .i64 ir)).set_ 1 (.int .i64 (glo - m6))).set_ 2 (.int .i64 (ghi + m6))).set_ 3 (.slice A1 nr k1)).set_ 4 (.slice A2 nd k2)).set_ 5 (.int .i64 (wrg + m5))
    simp only [List.setIfInBounds_toArray, List.set_cons_zero, List.set_cons_succ] at hbF
    have hOF : ∀ (u0 u1 u2 u3 u4 u5 : Value), PuOwn X.heap.size A1 nr k1 A2 nd k2 rods res ((((((V.setCell ⟨w.heap.size + 1 + 1, 0, none⟩ u0).setCell ⟨w.heap.size + 1 + 1, 1, none⟩ u1).setCell ⟨w.heap.size + 1 + 1, 2, none⟩ u2).setCell ⟨w.heap.size + 1 + 1, 3, none⟩ u3).setCell ⟨w.heap.size + 1 + 1, 4, none⟩ u4).setCell ⟨w.heap.size + 1 + 1, 5, none⟩ u5) := fun u0 u1 u2 u3 u4 u5 => by
      have hh : ∀ k, ((Value.slice A1 nr k1).ownBlock = some k ∨ (Value.slice A2 nd k2).ownBlock = some k) → k ≠ w.heap.size + 1 + 1 := fun k h => by have := (HOL.out k h).1; omega
      exact (((((HOV.out.far (p := ⟨w.heap.size + 1 + 1, 0, none⟩) u0 hh).far (p := ⟨w.heap.size + 1 + 1, 1, none⟩) u1 hh).far (p := ⟨w.heap.size + 1 + 1, 2, none⟩) u2 hh).far (p := ⟨w.heap.size + 1 + 1, 3, none⟩) u3 hh).far (p := ⟨w.heap.size + 1 + 1, 4, none⟩) u4 hh).far (p := ⟨w.heap.size + 1 + 1, 5, none⟩) u5 hh
    exact bodyPost_ret (v := .agg #[.int .i64 ir, .int .i64 (glo - m6), .int .i64 (ghi + m6), .slice A1 nr k1, .slice A2 nd k2, .int .i64 (wrg + m5)]) (results_cell_row Try.results21 _ _ (w.heap.size + 1 + 1) 27 _ (0, 0) _ rfl hbF Try.underlying27 rfl (by kernel_rfl)) rfl ⟨_, _, _, _, rfl, (hOF _ _ _ _ _ _).mono (by omega), by (repeat first | with_reducible assumption | with_reducible exact Below.refl _ _ | (with_reducible refine Below.alloc ?_ ?side _; case side => (first | omega | (with_reducible exact Below.size (by assumption)) | (simp; done) | (simp; omega))) | (with_reducible refine Below.setCell ?_ ?side _; case side => (first | omega | (with_reducible exact Below.size (by assumption)) | (simp; done) | (simp; omega))) | with_reducible refine Below.drew ?_ | with_reducible refine below_drewN ?_ _ | (with_reducible refine below_step (by assumption) ?side ?_; case side => (first | omega | (with_reducible exact Below.size (by assumption)) | (simp; done) | (simp; omega))))⟩
theorem wider4_c (Ar : Option Addr) (nr cr : Nat) (Ad : Option Addr) (nd cd : Nat) (p : P4) (x : Re4) (m0 m1 m2 m3 m4 m5 m6 : Int) (w : World) (HM : MemP Ar nr Ad nd p w) (ok : Ok4 nr nd p) (h1 : 0 ≤ m1 ∧ m1 ≤ 1000) (h2 : 0 ≤ m2 ∧ m2 ≤ 1000) (h4 : 0 ≤ m4 ∧ m4 ≤ 1000) (h5 : 0 ≤ m5 ∧ m5 ≤ 1000) (h6 : 0 ≤ m6 ∧ m6 ≤ 1000) :
    Calls Try.prog 21 #[.agg #[.int .i64 p.ir, .int .i64 p.glo, .int .i64 p.ghi, .slice Ar nr cr, .slice Ad nd cd, .int .i64 p.wr], .agg #[.int .i64 x.wh, .int .i64 x.rd, .int .i64 x.ct, .int .i64 x.rs, .int .i64 x.of, .int .i64 x.lo, .int .i64 x.hi, .int .i64 m0, .int .i64 m1, .int .i64 m2, .int .i64 m3, .int .i64 m4, .int .i64 m5, .int .i64 m6]] w
      fun e w' => ∃ A1 c1 A2 c2, e = .returned (.agg #[.int .i64 p.ir, .int .i64 (p.glo - m6), .int .i64 (p.ghi + m6), .slice A1 nr c1, .slice A2 nd c2, .int .i64 (p.wr + m5)]) ∧ PuOwn w.heap.size A1 nr c1 A2 nd c2 (wdRs p.rods m3 m4) (wdDs p.res m0 m1 m2) w' ∧ Below w.heap.size w w' := by
  by_cases hA : 0 ≤ m0 ∧ m0 < nd <;> by_cases hB : 0 ≤ m3 ∧ m3 < nr
  · exact wider4_11 Ar nr cr Ad nd cd p x m0 m1 m2 m3 m4 m5 m6 w HM ok h1 h2 h4 h5 h6 hA hB
  · exact wider4_10 Ar nr cr Ad nd cd p x m0 m1 m2 m3 m4 m5 m6 w HM ok h1 h2 h4 h5 h6 hA hB
  · exact wider4_01 Ar nr cr Ad nd cd p x m0 m1 m2 m3 m4 m5 m6 w HM ok h1 h2 h4 h5 h6 hA hB
  · exact wider4_00 Ar nr cr Ad nd cd p x m0 m1 m2 m3 m4 m5 m6 w HM ok h1 h2 h4 h5 h6 hA hB

end Go.Proofs.Ytjlibgledkdfiaa
