/- TopMeasured walked: for every input it returns true. -/
import Derived.Test.YtcbeiadimchknaaGreatQm26
import Derived.Test.YtcbeiadimchknaaGreatQm35
import Derived.Test.YtcbeiadimchknaaGreatQm47
import Derived.Test.YtcbeiadimchknaaGreatQm32
import Derived.Test.YtcbeiadimchknaaGreatQm14
import Derived.Shelf.Abstract
import Derived.Laws.EntriesVeiled
import Derived.Handy
import Derived.Deep.DrawnRows
import Derived.Deep.DeepCutAuto
import Derived.BigRegionIn
import Derived.Shelf.RegionOpen
import Derived.Deep.RegionHeld3
namespace Go.Proofs.YtcbeiadimchknaaGreat
open Go.RowKit
open Go.Sort (grow)
set_option linter.unusedVariables false
set_option linter.unusedSimpArgs false

set_option maxRecDepth 100000 in
set_option maxHeartbeats 6400000 in
theorem topmeas_c (Ar : Option Addr) (nr cr : Nat) (Ad : Option Addr) (nd cd : Nat) (p : P4) (long : Int) (w : World) (HM : MemP Ar nr Ad nd p w) :
    Calls Tryz.prog 4 #[.agg #[.int .i64 p.ir, .int .i64 p.glo, .int .i64 p.ghi, .slice Ar nr cr, .slice Ad nd cd, .int .i64 p.wr], .int .i64 long] w fun e w' => e = .returned (.bool true) ∧ Below w.heap.size w w' := by
  have HFR := Lib.hid (fun V (hV : Below w.heap.size w V) => far4_c Ar nr cr Ad nd cd p V (HM.later hV))
  cases hfar : far4 p
  case true =>
    rw [hfar] at HFR
    clear hfar HM
    obtain ⟨ir, glo, ghi, wrg, rods, res⟩ := p
    simp only at HFR ⊢
    go_enter Tryz.func4, Tryz.ntmps4
    go_upto_region 1 with (fail)
    go_name_world X hX
    have B0 : Hid (Below w.heap.size w X) := Lib.hid (al1 hX).1
    have HP0 : Hid (Blk X w.heap.size 50 #[Value.int .i64 ir, .int .i64 glo, .int .i64 ghi, .slice Ar nr cr, .slice Ad nd cd, .int .i64 wrg]) := by rw [← hX]; exact Lib.hid (Blk.new w _ _)
    have q0 := HP0.out.cell
    have l0 := HP0.out.lt
    clear hX
    go_wp2_with (first | (go_at_call 16; refine (HFR.out X B0.out).mono ?_; (rintro e w1 ⟨rfl, hb1⟩); (have B1 := Lib.hid (B0.out.trans (hb1.mono B0.out.size))); (have HP1 := Lib.hid (HP0.out.below hb1 HP0.out.lt)); (have q1 := HP1.out.cell); (have l1 := HP1.out.lt); clear hb1 q0 l0) | (go_at_call 7; refine (served_c _).mono ?_; (rintro e w9 ⟨rfl, hb9⟩); (have B9 := Lib.hid (B1.out.trans (hb9.mono B1.out.size))); clear hb9))
    go_ret
    exact ⟨rfl, B9.out⟩
  case false =>
    rw [hfar] at HFR
    have hr := HM.hr.1
    have hd := HM.hd.1
    obtain ⟨hnr, hnd, hrdy⟩ := far4_no hfar
    rw [hr] at hnr
    rw [hd] at hnd
    have HCK0 := Lib.hid (fun V (hV : Below w.heap.size w V) => refCheck4_c Ar nr cr Ad nd cd p V hnr hnd (HM.later hV))
    cases hc : ck4 p
    case false =>
      have HCK : Hid (∀ V, Below w.heap.size w V → Calls Tryz.prog 17 #[.agg #[.int .i64 p.ir, .int .i64 p.glo, .int .i64 p.ghi, .slice Ar nr cr, .slice Ad nd cd, .int .i64 p.wr]] V fun e w' => e = .returned (.int .i64 40) ∧ Below V.heap.size V w') := Lib.hid (fun V hV => by have := HCK0.out V hV; rw [hc] at this; exact this)
      clear hfar HM HCK0 hrdy hc hr hd
      obtain ⟨ir, glo, ghi, wrg, rods, res⟩ := p
      simp only at HFR HCK ⊢
      go_enter Tryz.func4, Tryz.ntmps4
      go_upto_region 1 with (fail)
      go_name_world X hX
      have B0 : Hid (Below w.heap.size w X) := Lib.hid (al1 hX).1
      have HP0 : Hid (Blk X w.heap.size 50 #[Value.int .i64 ir, .int .i64 glo, .int .i64 ghi, .slice Ar nr cr, .slice Ad nd cd, .int .i64 wrg]) := by rw [← hX]; exact Lib.hid (Blk.new w _ _)
      have q0 := HP0.out.cell
      have l0 := HP0.out.lt
      clear hX
      go_wp2_with (first | (go_at_call 16; refine (HFR.out X B0.out).mono ?_; (rintro e w1 ⟨rfl, hb1⟩); (have B1 := Lib.hid (B0.out.trans (hb1.mono B0.out.size))); (have HP1 := Lib.hid (HP0.out.below hb1 HP0.out.lt)); (have q1 := HP1.out.cell); (have l1 := HP1.out.lt); clear hb1 q0 l0) | (go_at_call 17; refine (HCK.out w1 B1.out).mono ?_; (rintro e w2 ⟨rfl, hb2⟩); (have B2 := Lib.hid (B1.out.trans (hb2.mono B1.out.size))); (have HP2 := Lib.hid (HP1.out.below hb2 HP1.out.lt)); (have q2 := HP2.out.cell); (have l2 := HP2.out.lt); clear hb2 q1 l1) | (go_at_call 7; refine (served_c _).mono ?_; (rintro e w9 ⟨rfl, hb9⟩); (have B9 := Lib.hid (B2.out.trans (hb9.mono B2.out.size))); clear hb9))
      go_ret
      exact ⟨rfl, B9.out⟩
    case true =>
      have HCK : Hid (∀ V, Below w.heap.size w V → Calls Tryz.prog 17 #[.agg #[.int .i64 p.ir, .int .i64 p.glo, .int .i64 p.ghi, .slice Ar nr cr, .slice Ad nd cd, .int .i64 p.wr]] V fun e w' => e = .returned (.int .i64 0) ∧ Below V.heap.size V w') := Lib.hid (fun V hV => by have := HCK0.out V hV; rw [hc] at this; exact this)
      have hrd := hrdy hc
      have hlgs := lgs_me hc hrd
      have okp := ok4_of hc hr hd
      have hg1 := okp.g.1
      have HLE := Lib.hid (fun V (hV : Below w.heap.size w V) => lengths4_c Ar nr cr Ad nd cd p 2 V hnr hnd (HM.later hV) (fun _ => hrd.len))
      rw [show when4 2 = true from rfl] at HLE
      obtain ⟨L, hL⟩ : ∃ L, lgs4 p 2 = L := ⟨_, rfl⟩
      obtain ⟨z, hz⟩ : ∃ z, op4 p true = z := ⟨_, rfl⟩
      rw [hL, hz] at HLE
      rw [hL, hz] at hlgs
      clear hfar HM HCK0 hrdy hc hr hd hrd okp hL hz
      obtain ⟨ir, glo, ghi, wrg, rods, res⟩ := p
      simp only at HFR HCK HLE hlgs hg1 ⊢
      by_cases g1 : 999 < ghi
      · have gB : decide (999 < ghi) = true := decide_eq_true g1
        clear HLE hlgs
        go_enter Tryz.func4, Tryz.ntmps4
        go_upto_region 1 with (fail)
        go_name_world X hX
        have B0 : Hid (Below w.heap.size w X) := Lib.hid (al1 hX).1
        have HP0 : Hid (Blk X w.heap.size 50 #[Value.int .i64 ir, .int .i64 glo, .int .i64 ghi, .slice Ar nr cr, .slice Ad nd cd, .int .i64 wrg]) := by rw [← hX]; exact Lib.hid (Blk.new w _ _)
        have q0 := HP0.out.cell
        have l0 := HP0.out.lt
        clear hX
        go_wp2_with (first | (go_at_call 16; refine (HFR.out X B0.out).mono ?_; (rintro e w1 ⟨rfl, hb1⟩); (have B1 := Lib.hid (B0.out.trans (hb1.mono B0.out.size))); (have HP1 := Lib.hid (HP0.out.below hb1 HP0.out.lt)); (have q1 := HP1.out.cell); (have l1 := HP1.out.lt); clear hb1 q0 l0) | (go_at_call 17; refine (HCK.out w1 B1.out).mono ?_; (rintro e w2 ⟨rfl, hb2⟩); (have B2 := Lib.hid (B1.out.trans (hb2.mono B1.out.size))); (have HP2 := Lib.hid (HP1.out.below hb2 HP1.out.lt)); (have q2 := HP2.out.cell); (have l2 := HP2.out.lt); clear hb2 q1 l1) | (go_at_call 7; refine (served_c _).mono ?_; (rintro e w9 ⟨rfl, hb9⟩); (have B9 := Lib.hid (B2.out.trans (hb9.mono B2.out.size))); clear hb9))
        go_ret
        exact ⟨rfl, B9.out⟩
      have g1B : decide (999 < ghi) = false := decide_eq_false g1
      by_cases g2 : long < 1
      · have gB : decide (long < 1) = true := decide_eq_true g2
        clear HLE hlgs
        go_enter Tryz.func4, Tryz.ntmps4
        go_upto_region 1 with (fail)
        go_name_world X hX
        have B0 : Hid (Below w.heap.size w X) := Lib.hid (al1 hX).1
        have HP0 : Hid (Blk X w.heap.size 50 #[Value.int .i64 ir, .int .i64 glo, .int .i64 ghi, .slice Ar nr cr, .slice Ad nd cd, .int .i64 wrg]) := by rw [← hX]; exact Lib.hid (Blk.new w _ _)
        have q0 := HP0.out.cell
        have l0 := HP0.out.lt
        clear hX
        go_wp2_with (first | (go_at_call 16; refine (HFR.out X B0.out).mono ?_; (rintro e w1 ⟨rfl, hb1⟩); (have B1 := Lib.hid (B0.out.trans (hb1.mono B0.out.size))); (have HP1 := Lib.hid (HP0.out.below hb1 HP0.out.lt)); (have q1 := HP1.out.cell); (have l1 := HP1.out.lt); clear hb1 q0 l0) | (go_at_call 17; refine (HCK.out w1 B1.out).mono ?_; (rintro e w2 ⟨rfl, hb2⟩); (have B2 := Lib.hid (B1.out.trans (hb2.mono B1.out.size))); (have HP2 := Lib.hid (HP1.out.below hb2 HP1.out.lt)); (have q2 := HP2.out.cell); (have l2 := HP2.out.lt); clear hb2 q1 l1) | (go_at_call 7; refine (served_c _).mono ?_; (rintro e w9 ⟨rfl, hb9⟩); (have B9 := Lib.hid (B2.out.trans (hb9.mono B2.out.size))); clear hb9))
        go_ret
        exact ⟨rfl, B9.out⟩
      have g2B : decide (long < 1) = false := decide_eq_false g2
      by_cases g3 : 999 < long
      · have gB : decide (999 < long) = true := decide_eq_true g3
        clear HLE hlgs
        go_enter Tryz.func4, Tryz.ntmps4
        go_upto_region 1 with (fail)
        go_name_world X hX
        have B0 : Hid (Below w.heap.size w X) := Lib.hid (al1 hX).1
        have HP0 : Hid (Blk X w.heap.size 50 #[Value.int .i64 ir, .int .i64 glo, .int .i64 ghi, .slice Ar nr cr, .slice Ad nd cd, .int .i64 wrg]) := by rw [← hX]; exact Lib.hid (Blk.new w _ _)
        have q0 := HP0.out.cell
        have l0 := HP0.out.lt
        clear hX
        go_wp2_with (first | (go_at_call 16; refine (HFR.out X B0.out).mono ?_; (rintro e w1 ⟨rfl, hb1⟩); (have B1 := Lib.hid (B0.out.trans (hb1.mono B0.out.size))); (have HP1 := Lib.hid (HP0.out.below hb1 HP0.out.lt)); (have q1 := HP1.out.cell); (have l1 := HP1.out.lt); clear hb1 q0 l0) | (go_at_call 17; refine (HCK.out w1 B1.out).mono ?_; (rintro e w2 ⟨rfl, hb2⟩); (have B2 := Lib.hid (B1.out.trans (hb2.mono B1.out.size))); (have HP2 := Lib.hid (HP1.out.below hb2 HP1.out.lt)); (have q2 := HP2.out.cell); (have l2 := HP2.out.lt); clear hb2 q1 l1) | (go_at_call 7; refine (served_c _).mono ?_; (rintro e w9 ⟨rfl, hb9⟩); (have B9 := Lib.hid (B2.out.trans (hb9.mono B2.out.size))); clear hb9))
        go_ret
        exact ⟨rfl, B9.out⟩
      have g3B : decide (999 < long) = false := decide_eq_false g3
      · skip
        rcases hlgs with ⟨rfl, rfl⟩ | ⟨rfl, m, hlen, hm8, hin, hmono⟩
        case inl =>
          go_enter Tryz.func4, Tryz.ntmps4
          go_upto_region 1 with (fail)
          go_name_world X hX
          have B0 : Hid (Below w.heap.size w X) := Lib.hid (al1 hX).1
          have HP0 : Hid (Blk X w.heap.size 50 #[Value.int .i64 ir, .int .i64 glo, .int .i64 ghi, .slice Ar nr cr, .slice Ad nd cd, .int .i64 wrg]) := by rw [← hX]; exact Lib.hid (Blk.new w _ _)
          have q0 := HP0.out.cell
          have l0 := HP0.out.lt
          clear hX
          go_wp2_with (first | (go_at_call 16; refine (HFR.out X B0.out).mono ?_; (rintro e w1 ⟨rfl, hb1⟩); (have B1 := Lib.hid (B0.out.trans (hb1.mono B0.out.size))); (have HP1 := Lib.hid (HP0.out.below hb1 HP0.out.lt)); (have q1 := HP1.out.cell); (have l1 := HP1.out.lt); clear hb1 q0 l0) | (go_at_call 17; refine (HCK.out w1 B1.out).mono ?_; (rintro e w2 ⟨rfl, hb2⟩); (have B2 := Lib.hid (B1.out.trans (hb2.mono B1.out.size))); (have HP2 := Lib.hid (HP1.out.below hb2 HP1.out.lt)); (have q2 := HP2.out.cell); (have l2 := HP2.out.lt); clear hb2 q1 l1) | (go_at_call 18; refine (HLE.out w2 B2.out).mono ?_; (rintro e w4 ⟨A, c, rfl, hI, hb4⟩); (have B4 := Lib.hid (B2.out.trans (hb4.mono B2.out.size))); clear hb4 q2 l2) | (go_at_call 7; refine (served_c _).mono ?_; (rintro e w9 ⟨rfl, hb9⟩); (have B9 := Lib.hid (B4.out.trans (hb9.mono B4.out.size))); clear hb9))
          go_ret
          exact ⟨rfl, B9.out⟩
        case inr =>
          rw [hlen] at HLE
          obtain ⟨n, hn⟩ : ∃ n, m + 1 = n := ⟨_, rfl⟩
          rw [hn] at HLE hin hmono
          obtain ⟨least, h0⟩ : ∃ x, iAt L 0 = x := ⟨_, rfl⟩
          obtain ⟨most, h1⟩ : ∃ x, iAt L m = x := ⟨_, rfl⟩
          have b0 := hin 0 (by omega)
          have b1 := hin m (by omega)
          have b2 := hmono 0 m (by omega) (by omega)
          rw [h0] at b0 b2
          rw [h1] at b1 b2
          have HIN := Lib.hid (fun k (hk : k < n) => (And.intro (by have := hmono 0 k (by omega) hk; rw [h0] at this; exact this) (by have := hmono k m (by omega) (by omega); rw [h1] at this; exact this) : least ≤ iAt L k ∧ iAt L k ≤ most))
          have d0 : decide ((n : Int) < 1) = false := decide_eq_false (by omega)
          have d1 : decide ((40 : Int) < n) = false := decide_eq_false (by omega)
          have d2 : decide (least < glo) = false := decide_eq_false (by omega)
          have d3 : decide (ghi < most) = false := decide_eq_false (by omega)
          have d4 : decide (most < least) = false := decide_eq_false (by omega)
          have v0 : IntKind.i64.wrap ((n : Int) - 1) = (m : Nat) := by rw [IntWalk.i64_in _ (by omega)]; omega
          have i0 : 0 < n := by omega
          have i1 : m < n := by omega
          clear hin hmono hlen
          go_enter Tryz.func4, Tryz.ntmps4
          go_upto_region 1 with (fail)
          go_name_world X hX
          have B0 : Hid (Below w.heap.size w X) := Lib.hid (al1 hX).1
          have HP0 : Hid (Blk X w.heap.size 50 #[Value.int .i64 ir, .int .i64 glo, .int .i64 ghi, .slice Ar nr cr, .slice Ad nd cd, .int .i64 wrg]) := by rw [← hX]; exact Lib.hid (Blk.new w _ _)
          have q0 := HP0.out.cell
          have l0 := HP0.out.lt
          clear hX
          go_upto_region 6 with (first | (go_at_call 16; refine (HFR.out X B0.out).mono ?_; (rintro e w1 ⟨rfl, hb1⟩); (have B1 := Lib.hid (B0.out.trans (hb1.mono B0.out.size))); (have HP1 := Lib.hid (HP0.out.below hb1 HP0.out.lt)); (have q1 := HP1.out.cell); (have l1 := HP1.out.lt); clear hb1 q0 l0) | (go_at_call 17; refine (HCK.out w1 B1.out).mono ?_; (rintro e w2 ⟨rfl, hb2⟩); (have B2 := Lib.hid (B1.out.trans (hb2.mono B1.out.size))); (have HP2 := Lib.hid (HP1.out.below hb2 HP1.out.lt)); (have q2 := HP2.out.cell); (have l2 := HP2.out.lt); clear hb2 q1 l1) | (go_at_call 18; refine (HLE.out w2 B2.out).mono ?_; (rintro e w4 ⟨A, c, rfl, hI, hb4⟩); (have HI4 := Lib.hid hI); (have B4 := Lib.hid (B2.out.trans (hb4.mono B2.out.size))); (have HP4 := Lib.hid (HP2.out.below hb4 HP2.out.lt)); (have q4 := HP4.out.cell); (have l4 := HP4.out.lt); clear hb4 q2 l2 hI))
          obtain ⟨b, o, hA, hbl, x0⟩ := HI4.out.get i0
          obtain ⟨b', o', hA', -, x1⟩ := HI4.out.get i1
          rw [hA] at hA'
          cases hA'
          subst hA
          rw [h0, Nat.add_zero] at x0
          rw [h1] at x1
          have hcq := fun p : Regrown => (bcell (below_regrown w4 p.d p.os)).1
          refine wp_region_quiet_below (by kernel_rfl) (by kernel_rfl) ?_
          repeat (go_big_quiet_step ((fail)))
          refine wpQuiet_nil ?_
          intro w5 hq
          obtain ⟨pq, hq⟩ := hq
          have hb5 : Below w4.heap.size w4 w5 := by rw [hq]; exact below_regrown _ _ _
          clear hq hcq pq
          obtain ⟨hc5, hf5⟩ := bcell hb5
          have z5 := hb5.size
          have x0' := (hc5 b o hbl).trans x0
          have x1' := (hc5 b (o + m) hbl).trans x1
          have hbl5 := Nat.lt_of_lt_of_le hbl z5
          have HI5 := Lib.hid (HI4.out.later hb5)
          have B5 := Lib.hid (B4.out.trans (hb5.mono B4.out.size))
          clear hc5 hf5 hb5 x0 x1 q4 l4
          have HSS : Hid (∀ W', Below w5.heap.size w5 W' → W'.cell? ⟨b, o, none⟩ = some (.int .i64 least) ∧ W'.cell? ⟨b, o + m, none⟩ = some (.int .i64 most)) := Lib.hid (fun W' h => ⟨(h.cell (p := ⟨b, o, none⟩) hbl5).trans x0', (h.cell (p := ⟨b, o + m, none⟩) hbl5).trans x1'⟩)
          clear x0' x1'
          go_upto_region 8 with (fail)
          go_cut [7] (fun t7 (V : World) => ∃ (g : Nat) (A1 A2 A3 : Option Addr) (c3 : Nat), t7 = .pointer (some ⟨g, 0, none⟩) ∧ Hid (Blk V g 40 #[.slice A1 1 1, .slice A2 1 1, .slice A3 1 c3, .int .i64 0] ∧ RtsAt V A1 1 [⟨0, 1, long⟩] ∧ SpsAt V A2 1 [⟨5, 5⟩] ∧ SksAt V A3 1 [⟨1, least, most⟩]) ∧ Hid (Below w5.heap.size w5 V))
          case first =>
            as_aux_lemma =>
              refine wp_region_L (by kernel_rfl) (fun W' => W'.cell? ⟨b, o, none⟩ = some (.int .i64 least) ∧ W'.cell? ⟨b, o + m, none⟩ = some (.int .i64 most)) 99 ?_
              obtain ⟨Y, hY⟩ : ∃ Y, w5.drew = Y := ⟨_, rfl⟩
              rw [hY]
              have BY : Below w5.heap.size w5 Y := by rw [← hY]; (repeat first | with_reducible assumption | with_reducible exact Below.refl _ _ | (with_reducible refine Below.alloc ?_ ?side _; case side => (first | omega | (with_reducible exact Below.size (by assumption)) | (simp; done) | (simp; omega))) | (with_reducible refine Below.setCell ?_ ?side _; case side => (first | omega | (with_reducible exact Below.size (by assumption)) | (simp; done) | (simp; omega))) | with_reducible refine Below.drew ?_ | with_reducible refine below_drewN ?_ _ | (with_reducible refine below_step (by assumption) ?side ?_; case side => (first | omega | (with_reducible exact Below.size (by assumption)) | (simp; done) | (simp; omega))))
              clear hY
              have zY := BY.size
              have hS := HSS.out Y BY
              refine wpAnyL_take (i := 0) (v := ?_) rfl (by kernel_rfl) (by kernel_rfl) (by kernel_rfl) (by kernel_rfl) (fun _ _ _ h => h) hS (Or.inl ⟨by rfl, ?_⟩) ?_
              rotate_left 1
              · intro w9 hw9
                obtain ⟨s0, s1⟩ := hw9
                go_simp
                try with_reducible rfl
              try simp only [List.getElem_toArray, List.getElem_cons_zero, List.getElem_cons_succ, Act.put, List.setIfInBounds_toArray, List.set_cons_zero, List.set_cons_succ]
              refine wpAnyL_take (i := 1) (v := ?_) rfl (by kernel_rfl) (by kernel_rfl) (by kernel_rfl) (by kernel_rfl) (fun _ _ _ h => h) hS (Or.inl ⟨by rfl, ?_⟩) ?_
              rotate_left 1
              · intro w9 hw9
                obtain ⟨s0, s1⟩ := hw9
                go_simp
                try with_reducible rfl
              try simp only [List.getElem_toArray, List.getElem_cons_zero, List.getElem_cons_succ, Act.put, List.setIfInBounds_toArray, List.set_cons_zero, List.set_cons_succ]
              refine wpAnyL_take (i := 2) (v := ?_) rfl (by kernel_rfl) (by kernel_rfl) (by kernel_rfl) (by kernel_rfl) (fun _ _ _ h => h) hS (Or.inl ⟨by rfl, ?_⟩) ?_
              rotate_left 1
              · intro w9 hw9
                obtain ⟨s0, s1⟩ := hw9
                go_simp
                try with_reducible rfl
              try simp only [List.getElem_toArray, List.getElem_cons_zero, List.getElem_cons_succ, Act.put, List.setIfInBounds_toArray, List.set_cons_zero, List.set_cons_succ]
              refine wpAnyL_take (i := 3) (v := ?_) rfl (by kernel_rfl) (by kernel_rfl) (by kernel_rfl) (by kernel_rfl) (fun _ _ _ h => h) hS (Or.inl ⟨by rfl, ?_⟩) ?_
              rotate_left 1
              · intro w9 hw9
                obtain ⟨s0, s1⟩ := hw9
                go_simp
                try with_reducible rfl
              try simp only [List.getElem_toArray, List.getElem_cons_zero, List.getElem_cons_succ, Act.put, List.setIfInBounds_toArray, List.set_cons_zero, List.set_cons_succ]
              refine wpAnyL_take (i := 4) (v := ?_) rfl (by kernel_rfl) (by kernel_rfl) (by kernel_rfl) (by kernel_rfl) (fun _ _ _ h => h) hS (Or.inl ⟨by rfl, ?_⟩) ?_
              rotate_left 1
              · intro w9 hw9
                obtain ⟨s0, s1⟩ := hw9
                go_simp
                try with_reducible rfl
              try simp only [List.getElem_toArray, List.getElem_cons_zero, List.getElem_cons_succ, Act.put, List.setIfInBounds_toArray, List.set_cons_zero, List.set_cons_succ]
              refine wpAnyL_take (i := 5) (v := ?_) rfl (by kernel_rfl) (by kernel_rfl) (by kernel_rfl) (by kernel_rfl) (fun _ _ _ h => h) hS (Or.inl ⟨by rfl, ?_⟩) ?_
              rotate_left 1
              · intro w9 hw9
                obtain ⟨s0, s1⟩ := hw9
                go_simp
                try with_reducible rfl
              try simp only [List.getElem_toArray, List.getElem_cons_zero, List.getElem_cons_succ, Act.put, List.setIfInBounds_toArray, List.set_cons_zero, List.set_cons_succ]
              refine wpAnyL_take (i := 6) (v := ?_) rfl (by kernel_rfl) (by kernel_rfl) (by kernel_rfl) (by kernel_rfl) (fun _ _ _ h => h) hS (Or.inl ⟨by rfl, ?_⟩) ?_
              rotate_left 1
              · intro w9 hw9
                obtain ⟨s0, s1⟩ := hw9
                go_simp
                try with_reducible rfl
              try simp only [List.getElem_toArray, List.getElem_cons_zero, List.getElem_cons_succ, Act.put, List.setIfInBounds_toArray, List.set_cons_zero, List.set_cons_succ]
              refine wpAnyL_take (i := 7) (v := ?_) rfl (by kernel_rfl) (by kernel_rfl) (by kernel_rfl) (by kernel_rfl) (fun _ _ _ h => h) hS (Or.inl ⟨by rfl, ?_⟩) ?_
              rotate_left 1
              · intro w9 hw9
                obtain ⟨s0, s1⟩ := hw9
                go_simp
                try with_reducible rfl
              try simp only [List.getElem_toArray, List.getElem_cons_zero, List.getElem_cons_succ, Act.put, List.setIfInBounds_toArray, List.set_cons_zero, List.set_cons_succ]
              refine wpAnyL_take (i := 8) (v := ?_) rfl (by kernel_rfl) (by kernel_rfl) (by kernel_rfl) (by kernel_rfl) (fun _ _ _ h => h) hS (Or.inl ⟨by rfl, ?_⟩) ?_
              rotate_left 1
              · intro w9 hw9
                obtain ⟨s0, s1⟩ := hw9
                go_simp
                try with_reducible rfl
              try simp only [List.getElem_toArray, List.getElem_cons_zero, List.getElem_cons_succ, Act.put, List.setIfInBounds_toArray, List.set_cons_zero, List.set_cons_succ]
              refine wpAnyL_take (i := 9) (v := ?_) rfl (by kernel_rfl) (by kernel_rfl) (by kernel_rfl) (by kernel_rfl) (fun _ _ _ h => h) hS (Or.inl ⟨by rfl, ?_⟩) ?_
              rotate_left 1
              · intro w9 hw9
                obtain ⟨s0, s1⟩ := hw9
                go_simp
                try with_reducible rfl
              try simp only [List.getElem_toArray, List.getElem_cons_zero, List.getElem_cons_succ, Act.put, List.setIfInBounds_toArray, List.set_cons_zero, List.set_cons_succ]
              refine wpAnyL_take (i := 10) (v := ?_) rfl (by kernel_rfl) (by kernel_rfl) (by kernel_rfl) (by kernel_rfl) (fun _ _ _ h => h) hS (Or.inl ⟨by rfl, ?_⟩) ?_
              rotate_left 1
              · intro w9 hw9
                obtain ⟨s0, s1⟩ := hw9
                go_simp
                try with_reducible rfl
              try simp only [List.getElem_toArray, List.getElem_cons_zero, List.getElem_cons_succ, Act.put, List.setIfInBounds_toArray, List.set_cons_zero, List.set_cons_succ]
              clear hS
              refine wpAnyL_two (i := 11) (j := 13) (by kernel_rfl) rfl rfl (fun K hK => ?_) (fun K hK => ?_)
              · skip
                try refine wpAnyL_one (i := 11) (by kernel_rfl) rfl (fun K hK => ?_)
                go_simp
                obtain ⟨Zs, hZs⟩ : ∃ Z, World.alloc Y (.cells #[.int .i64 least, .int .i64 most] 34) = Z := ⟨_, rfl⟩
                rw [hZs]
                have BS0 : Below (Y).heap.size Y Zs := (al1 hZs).1
                have HzS : Hid (Zs.heap.size = (Y).heap.size + 1) := Lib.hid (al1 hZs).2
                have BS : Below w5.heap.size w5 Zs := Below.trans BY (BS0.mono (Below.size BY))
                have HSL : Hid (SpsAt Zs (some ⟨(Y).heap.size, 0, none⟩) 1 [⟨least, most⟩]) := by rw [← hZs]; exact Lib.hid (sps_iff.2 (sl_new encS_len rfl rfl rfl))
                clear hZs
                refine hK.out _ _ (fun _ => HSS.out _ BS) (fun _ => ?_)
                clear hK K
                try simp only [List.getElem_toArray, List.getElem_cons_zero, List.getElem_cons_succ, Act.put, List.setIfInBounds_toArray, List.set_cons_zero, List.set_cons_succ]
                refine wpAnyL_two (i := 12) (j := 13) (by kernel_rfl) rfl rfl (fun K hK => ?_) (fun K hK => ?_)
                · skip
                  try refine wpAnyL_one (i := 12) (by kernel_rfl) rfl (fun K hK => ?_)
                  go_simp
                  go_at_call 11
                  refine (alone_c _ 1 1 [⟨least, most⟩] long 0 _ (by omega) HSL.out).mono ?_
                  rintro e wa ⟨A1, A2, A3, c3, rfl, ha1, ha2, ha3, na1, na2, na3, hba⟩
                  have BA := Below.trans BS (hba.mono (Below.size BS))
                  have HA1 := Lib.hid ha1
                  have HA2 := Lib.hid ha2
                  have HA3 := Lib.hid (show SksAt wa A3 1 [⟨1, least, most⟩] from ha3)
                  have HN := Lib.hid (And.intro na1 (And.intro na2 na3))
                  have HBA := Lib.hid hba
                  clear ha1 ha2 ha3 na1 na2 na3 hba
                  refine hK.out _ _ (fun _ => HSS.out _ BA) (fun _ => ?_)
                  clear hK K
                  try simp only [List.getElem_toArray, List.getElem_cons_zero, List.getElem_cons_succ, Act.put, List.setIfInBounds_toArray, List.set_cons_zero, List.set_cons_succ]
                  try refine wpAnyL_one (i := 13) (by kernel_rfl) rfl (fun K hK => ?_)
                  go_simp
                  obtain ⟨Zo, hZo⟩ : ∃ Z, World.alloc wa (.cells #[.slice none 0 0, .slice none 0 0, .slice none 0 0, .int .i64 0] 40) = Z := ⟨_, rfl⟩
                  rw [hZo]
                  have BO0 : Below (wa).heap.size wa Zo := (al1 hZo).1
                  have HzO : Hid (Zo.heap.size = (wa).heap.size + 1) := Lib.hid (al1 hZo).2
                  have BO : Below w5.heap.size w5 Zo := Below.trans BA (BO0.mono (Below.size BA))
                  have HZO : Hid (Blk Zo (wa).heap.size 40 #[.slice none 0 0, .slice none 0 0, .slice none 0 0, .int .i64 0]) := by rw [← hZo]; exact Lib.hid (Blk.new _ _ _)
                  clear hZo
                  refine hK.out _ _ (fun _ => HSS.out _ BO) (fun _ => ?_)
                  clear hK K
                  try simp only [List.getElem_toArray, List.getElem_cons_zero, List.getElem_cons_succ, Act.put, List.setIfInBounds_toArray, List.set_cons_zero, List.set_cons_succ]
                  have zz := BA.size
                  have HG9 := Lib.hid (HZO.out)
                  have k9 := HG9.out.cell
                  have f9 := HG9.out.frozen
                  have l9 := HG9.out.lt
                  refine wpAnyL_one (i := 14) (by kernel_rfl) rfl (fun K hK => ?_)
                  go_simp
                  obtain ⟨Vs, hVs⟩ : ∃ V, ((((World.setCell Zo ⟨wa.heap.size, 0, none⟩ (.slice A1 1 1)).setCell ⟨wa.heap.size, 1, none⟩ (.slice A2 1 1)).setCell ⟨wa.heap.size, 2, none⟩ (.slice A3 1 c3)).setCell ⟨wa.heap.size, 3, none⟩ (.int .i64 0)) = V := ⟨_, rfl⟩
                  rw [hVs]
                  have h8 := (And.intro (fun a e => (Nat.ne_of_lt (sl_lt8 HA1.out (by omega) a e))) (And.intro (fun a e => (Nat.ne_of_lt (sl_lt8 (sps_iff.1 HA2.out) (by omega) a e))) (fun a e => (Nat.ne_of_lt (sl_lt8 HA3.out (by omega) a e)))) : (∀ a, A1 = some a → a.block ≠ wa.heap.size) ∧ (∀ a, A2 = some a → a.block ≠ wa.heap.size) ∧ (∀ a, A3 = some a → a.block ≠ wa.heap.size))
                  have h9 := ord_store8 HG9.out (HA1.out.later BO0) (HA2.out.later BO0) (HA3.out.later BO0) h8.1 h8.2.1 h8.2.2 hVs
                  have BV : Below w5.heap.size w5 Vs := by rw [← hVs]; exact Below.setCell (p := ⟨wa.heap.size, 3, none⟩) (Below.setCell (p := ⟨wa.heap.size, 2, none⟩) (Below.setCell (p := ⟨wa.heap.size, 1, none⟩) (Below.setCell (p := ⟨wa.heap.size, 0, none⟩) BO (by show w5.heap.size ≤ wa.heap.size; omega) _) (by show w5.heap.size ≤ wa.heap.size; omega) _) (by show w5.heap.size ≤ wa.heap.size; omega) _) (by show w5.heap.size ≤ wa.heap.size; omega) _
                  have H9 := Lib.hid h9
                  clear hVs h8 h9 k9 f9 l9
                  refine hK.out _ _ (fun _ => HSS.out _ BV) (fun _ => ?_)
                  clear hK K
                  refine wpAnyL_done (by kernel_rfl) ?_ _
                  go_wp2_with fail
                  go_meet
                  exact ⟨wa.heap.size, A1, A2, A3, c3, rfl, H9, Lib.hid BV⟩
                · skip
                  try refine wpAnyL_one (i := 13) (by kernel_rfl) rfl (fun K hK => ?_)
                  go_simp
                  obtain ⟨Zo, hZo⟩ : ∃ Z, World.alloc Zs (.cells #[.slice none 0 0, .slice none 0 0, .slice none 0 0, .int .i64 0] 40) = Z := ⟨_, rfl⟩
                  rw [hZo]
                  have BO0 : Below (Zs).heap.size Zs Zo := (al1 hZo).1
                  have HzO : Hid (Zo.heap.size = (Zs).heap.size + 1) := Lib.hid (al1 hZo).2
                  have BO : Below w5.heap.size w5 Zo := Below.trans BS (BO0.mono (Below.size BS))
                  have HZO : Hid (Blk Zo (Zs).heap.size 40 #[.slice none 0 0, .slice none 0 0, .slice none 0 0, .int .i64 0]) := by rw [← hZo]; exact Lib.hid (Blk.new _ _ _)
                  clear hZo
                  refine hK.out _ _ (fun _ => HSS.out _ BO) (fun _ => ?_)
                  clear hK K
                  try simp only [List.getElem_toArray, List.getElem_cons_zero, List.getElem_cons_succ, Act.put, List.setIfInBounds_toArray, List.set_cons_zero, List.set_cons_succ]
                  try refine wpAnyL_one (i := 12) (by kernel_rfl) rfl (fun K hK => ?_)
                  go_simp
                  go_at_call 11
                  refine (alone_c _ 1 1 [⟨least, most⟩] long 0 _ (by omega) (HSL.out.later BO0)).mono ?_
                  rintro e wa ⟨A1, A2, A3, c3, rfl, ha1, ha2, ha3, na1, na2, na3, hba⟩
                  have BA := Below.trans BO (hba.mono (Below.size BO))
                  have HA1 := Lib.hid ha1
                  have HA2 := Lib.hid ha2
                  have HA3 := Lib.hid (show SksAt wa A3 1 [⟨1, least, most⟩] from ha3)
                  have HN := Lib.hid (And.intro na1 (And.intro na2 na3))
                  have HBA := Lib.hid hba
                  clear ha1 ha2 ha3 na1 na2 na3 hba
                  refine hK.out _ _ (fun _ => HSS.out _ BA) (fun _ => ?_)
                  clear hK K
                  try simp only [List.getElem_toArray, List.getElem_cons_zero, List.getElem_cons_succ, Act.put, List.setIfInBounds_toArray, List.set_cons_zero, List.set_cons_succ]
                  have zz := BS.size
                  have HG9 := Lib.hid (HZO.out.below HBA.out HZO.out.lt)
                  have k9 := HG9.out.cell
                  have f9 := HG9.out.frozen
                  have l9 := HG9.out.lt
                  refine wpAnyL_one (i := 14) (by kernel_rfl) rfl (fun K hK => ?_)
                  go_simp
                  obtain ⟨Vs, hVs⟩ : ∃ V, ((((World.setCell wa ⟨Zs.heap.size, 0, none⟩ (.slice A1 1 1)).setCell ⟨Zs.heap.size, 1, none⟩ (.slice A2 1 1)).setCell ⟨Zs.heap.size, 2, none⟩ (.slice A3 1 c3)).setCell ⟨Zs.heap.size, 3, none⟩ (.int .i64 0)) = V := ⟨_, rfl⟩
                  rw [hVs]
                  have h8 := (And.intro (fun a e => by have := HzO.out; have := HN.out.1 a e; omega) (And.intro (fun a e => by have := HzO.out; have := HN.out.2.1 a e; omega) (fun a e => by have := HzO.out; have := HN.out.2.2 a e; omega)) : (∀ a, A1 = some a → a.block ≠ Zs.heap.size) ∧ (∀ a, A2 = some a → a.block ≠ Zs.heap.size) ∧ (∀ a, A3 = some a → a.block ≠ Zs.heap.size))
                  have h9 := ord_store8 HG9.out (HA1.out) (HA2.out) (HA3.out) h8.1 h8.2.1 h8.2.2 hVs
                  have BV : Below w5.heap.size w5 Vs := by rw [← hVs]; exact Below.setCell (p := ⟨Zs.heap.size, 3, none⟩) (Below.setCell (p := ⟨Zs.heap.size, 2, none⟩) (Below.setCell (p := ⟨Zs.heap.size, 1, none⟩) (Below.setCell (p := ⟨Zs.heap.size, 0, none⟩) BA (by show w5.heap.size ≤ Zs.heap.size; omega) _) (by show w5.heap.size ≤ Zs.heap.size; omega) _) (by show w5.heap.size ≤ Zs.heap.size; omega) _) (by show w5.heap.size ≤ Zs.heap.size; omega) _
                  have H9 := Lib.hid h9
                  clear hVs h8 h9 k9 f9 l9
                  refine hK.out _ _ (fun _ => HSS.out _ BV) (fun _ => ?_)
                  clear hK K
                  refine wpAnyL_done (by kernel_rfl) ?_ _
                  go_wp2_with fail
                  go_meet
                  exact ⟨Zs.heap.size, A1, A2, A3, c3, rfl, H9, Lib.hid BV⟩
              · skip
                try refine wpAnyL_one (i := 13) (by kernel_rfl) rfl (fun K hK => ?_)
                go_simp
                obtain ⟨Zo, hZo⟩ : ∃ Z, World.alloc Y (.cells #[.slice none 0 0, .slice none 0 0, .slice none 0 0, .int .i64 0] 40) = Z := ⟨_, rfl⟩
                rw [hZo]
                have BO0 : Below (Y).heap.size Y Zo := (al1 hZo).1
                have HzO : Hid (Zo.heap.size = (Y).heap.size + 1) := Lib.hid (al1 hZo).2
                have BO : Below w5.heap.size w5 Zo := Below.trans BY (BO0.mono (Below.size BY))
                have HZO : Hid (Blk Zo (Y).heap.size 40 #[.slice none 0 0, .slice none 0 0, .slice none 0 0, .int .i64 0]) := by rw [← hZo]; exact Lib.hid (Blk.new _ _ _)
                clear hZo
                refine hK.out _ _ (fun _ => HSS.out _ BO) (fun _ => ?_)
                clear hK K
                try simp only [List.getElem_toArray, List.getElem_cons_zero, List.getElem_cons_succ, Act.put, List.setIfInBounds_toArray, List.set_cons_zero, List.set_cons_succ]
                try refine wpAnyL_one (i := 11) (by kernel_rfl) rfl (fun K hK => ?_)
                go_simp
                obtain ⟨Zs, hZs⟩ : ∃ Z, World.alloc Zo (.cells #[.int .i64 least, .int .i64 most] 34) = Z := ⟨_, rfl⟩
                rw [hZs]
                have BS0 : Below (Zo).heap.size Zo Zs := (al1 hZs).1
                have HzS : Hid (Zs.heap.size = (Zo).heap.size + 1) := Lib.hid (al1 hZs).2
                have BS : Below w5.heap.size w5 Zs := Below.trans BO (BS0.mono (Below.size BO))
                have HSL : Hid (SpsAt Zs (some ⟨(Zo).heap.size, 0, none⟩) 1 [⟨least, most⟩]) := by rw [← hZs]; exact Lib.hid (sps_iff.2 (sl_new encS_len rfl rfl rfl))
                clear hZs
                refine hK.out _ _ (fun _ => HSS.out _ BS) (fun _ => ?_)
                clear hK K
                try simp only [List.getElem_toArray, List.getElem_cons_zero, List.getElem_cons_succ, Act.put, List.setIfInBounds_toArray, List.set_cons_zero, List.set_cons_succ]
                try refine wpAnyL_one (i := 12) (by kernel_rfl) rfl (fun K hK => ?_)
                go_simp
                go_at_call 11
                refine (alone_c _ 1 1 [⟨least, most⟩] long 0 _ (by omega) HSL.out).mono ?_
                rintro e wa ⟨A1, A2, A3, c3, rfl, ha1, ha2, ha3, na1, na2, na3, hba⟩
                have BA := Below.trans BS (hba.mono (Below.size BS))
                have HA1 := Lib.hid ha1
                have HA2 := Lib.hid ha2
                have HA3 := Lib.hid (show SksAt wa A3 1 [⟨1, least, most⟩] from ha3)
                have HN := Lib.hid (And.intro na1 (And.intro na2 na3))
                have HBA := Lib.hid hba
                clear ha1 ha2 ha3 na1 na2 na3 hba
                refine hK.out _ _ (fun _ => HSS.out _ BA) (fun _ => ?_)
                clear hK K
                try simp only [List.getElem_toArray, List.getElem_cons_zero, List.getElem_cons_succ, Act.put, List.setIfInBounds_toArray, List.set_cons_zero, List.set_cons_succ]
                have HG9 := Lib.hid ((HZO.out.below BS0 HZO.out.lt).below HBA.out (HZO.out.below BS0 HZO.out.lt).lt)
                have k9 := HG9.out.cell
                have f9 := HG9.out.frozen
                have l9 := HG9.out.lt
                refine wpAnyL_one (i := 14) (by kernel_rfl) rfl (fun K hK => ?_)
                go_simp
                obtain ⟨Vs, hVs⟩ : ∃ V, ((((World.setCell wa ⟨Y.heap.size, 0, none⟩ (.slice A1 1 1)).setCell ⟨Y.heap.size, 1, none⟩ (.slice A2 1 1)).setCell ⟨Y.heap.size, 2, none⟩ (.slice A3 1 c3)).setCell ⟨Y.heap.size, 3, none⟩ (.int .i64 0)) = V := ⟨_, rfl⟩
                rw [hVs]
                have h8 := (And.intro (fun a e => by have := HzO.out; have := HzS.out; have := HN.out.1 a e; omega) (And.intro (fun a e => by have := HzO.out; have := HzS.out; have := HN.out.2.1 a e; omega) (fun a e => by have := HzO.out; have := HzS.out; have := HN.out.2.2 a e; omega)) : (∀ a, A1 = some a → a.block ≠ Y.heap.size) ∧ (∀ a, A2 = some a → a.block ≠ Y.heap.size) ∧ (∀ a, A3 = some a → a.block ≠ Y.heap.size))
                have h9 := ord_store8 HG9.out (HA1.out) (HA2.out) (HA3.out) h8.1 h8.2.1 h8.2.2 hVs
                have BV : Below w5.heap.size w5 Vs := by rw [← hVs]; exact Below.setCell (p := ⟨Y.heap.size, 3, none⟩) (Below.setCell (p := ⟨Y.heap.size, 2, none⟩) (Below.setCell (p := ⟨Y.heap.size, 1, none⟩) (Below.setCell (p := ⟨Y.heap.size, 0, none⟩) BA (by show w5.heap.size ≤ Y.heap.size; omega) _) (by show w5.heap.size ≤ Y.heap.size; omega) _) (by show w5.heap.size ≤ Y.heap.size; omega) _) (by show w5.heap.size ≤ Y.heap.size; omega) _
                have H9 := Lib.hid h9
                clear hVs h8 h9 k9 f9 l9
                refine hK.out _ _ (fun _ => HSS.out _ BV) (fun _ => ?_)
                clear hK K
                refine wpAnyL_done (by kernel_rfl) ?_ _
                go_wp2_with fail
                go_meet
                exact ⟨Y.heap.size, A1, A2, A3, c3, rfl, H9, Lib.hid BV⟩
          case rest =>
            obtain ⟨g, A1, A2, A3, c3, rfl, HG, HBC⟩ := hcut
            have hl1 : 1 ≤ long ∧ long ≤ 999 := by omega
            have hl2 : 1 ≤ least ∧ least ≤ most ∧ most ≤ 999 := by omega
            have B6 := Lib.hid (B5.out.trans (HBC.out.mono B5.out.size))
            have HI6 := Lib.hid (HI5.out.later HBC.out)
            have HOK := Lib.hid (one_ok (long := long) (lo := least) (hi := most) hl1 hl2)
            have kMk : Hid (∀ (P : Option Addr) (W : World), Below wc.heap.size wc W → IntsAt W P 1 [0] → Calls Tryz.prog 12 #[.agg #[.slice A1 1 1, .slice A2 1 1, .slice A3 1 c3, .int .i64 0], .slice P 1 1] W fun e w' => e = .returned (.tuple #[.int .i64 (if long ≤ least then 1 else if most < long then 2 else 3), .int .i64 0]) ∧ Below W.heap.size W w') := Lib.hid (fun P W hW hP => by
              have := Makes8_c A1 1 1 A2 1 1 A3 1 c3 0 [⟨0, 1, long⟩] [⟨5, 5⟩] [⟨1, least, most⟩] P 1 [0] W (HG.out.2.1.later hW) (HG.out.2.2.1.later hW) (HG.out.2.2.2.later hW) hP HOK.out (fun k hk => (by rw [show k = 0 by omega]; decide))
              rw [one_hu, one_kn, cb_1, one_mk] at this
              simpa using this)
            have kBy : Hid (∀ (W : World), Below wc.heap.size wc W → Calls Tryz.prog 19 #[.agg #[.slice A1 1 1, .slice A2 1 1, .slice A3 1 c3, .int .i64 0], .int .i64 1] W fun e w' => e = .returned (.tuple #[.int .i64 (max 0 (long - least)), .int .i64 0]) ∧ Below W.heap.size W w') := Lib.hid (fun W hW => Buy8_c A1 1 1 A2 1 1 A3 1 c3 0 1 (max 0 (long - least)) [⟨0, 1, long⟩] [⟨5, 5⟩] [⟨1, least, most⟩] W (by omega) (by omega) (HG.out.2.1.later hW) (HG.out.2.2.1.later hW) (HG.out.2.2.2.later hW) HOK.out (fun x h1 h2 => one_okx hl1 hl2 h1 h2) (one_can hl1.1) (by omega) (fun x h1 h2 => one_canx hl1.1 hl2.1 h1))
            have kg := HG.out.1.cell
            have lg := HG.out.1.lt
            go_upto_region 10 with (go_at_call 12; refine (kMk.out _ _ ?hb ?hp).mono ?_; (case hb => exact (Below.refl _ _).alloc (Nat.le_refl _) _); (case hp => exact ints_iff.2 (sl_new encI_len rfl rfl rfl)); (rintro e w7 ⟨rfl, hb7⟩); (have BC7 := Lib.hid (((Below.refl wc.heap.size wc).alloc (Nat.le_refl _) _).trans (hb7.mono (by simp)))); (have q7 := (HG.out.1.below BC7.out lg).cell); (have l7 := (HG.out.1.below BC7.out lg).lt); clear hb7)
            clear kg lg
            go_upto_region 11 with (go_at_call 19; refine (kBy.out w7 BC7.out).mono ?_; (rintro e w8 ⟨rfl, hb8⟩); (have BC8 := Lib.hid (BC7.out.trans (hb8.mono BC7.out.size))); clear hb8)
            clear q7 l7
            have HI8 := Lib.hid (HI6.out.later BC8.out)
            have HB8 := Lib.hid (B6.out.trans (BC8.out.mono B6.out.size))
            have y0 := (BC8.out.cell (p := ⟨b, o, none⟩) (Nat.lt_of_lt_of_le hbl5 HBC.out.size)).trans (HSS.out wc HBC.out).1
            have y1 := (BC8.out.cell (p := ⟨b, o + m, none⟩) (Nat.lt_of_lt_of_le hbl5 HBC.out.size)).trans (HSS.out wc HBC.out).2
            have hb8 : b < w8.heap.size := Nat.lt_of_lt_of_le (Nat.lt_of_lt_of_le hbl5 HBC.out.size) BC8.out.size
            have v1 : IntKind.i64.wrap ((n : Int) - 1) = (m : Nat) := by rw [IntWalk.i64_in _ (by omega)]; omega
            have v2 : IntKind.i64.wrap (long - least) = long - least := IntWalk.i64_in _ (by omega)
            have hgm : (0 : Int) ≤ max 0 (long - least) := by omega
            by_cases c1 : long ≤ least
            · have d1 : decide (long ≤ least) = true := decide_eq_true c1
              have d2 : decide (most < long) = false := decide_eq_false (by omega)
              rw [if_pos c1]
              go_wp2_with (go_at_call 7; refine (served_c _).mono ?_; (rintro e w9 ⟨rfl, hb9⟩); (have B9 := Lib.hid (HB8.out.trans (hb9.mono HB8.out.size))); clear hb9)
              go_ret
              exact ⟨by simp, B9.out⟩
            · have d1 : decide (long ≤ least) = false := decide_eq_false c1
              rw [if_neg c1]
              by_cases c2 : most < long
              · have d2 : decide (most < long) = true := decide_eq_true c2
                rw [if_pos c2]
                go_wp2_with (go_at_call 7; refine (served_c _).mono ?_; (rintro e w9 ⟨rfl, hb9⟩); (have B9 := Lib.hid (HB8.out.trans (hb9.mono HB8.out.size))); clear hb9)
                go_ret
                exact ⟨by simp, B9.out⟩
              · have d2 : decide (most < long) = false := decide_eq_false c2
                rw [if_neg c2]
                go_wp2_with (go_at_call 7; refine (served_c _).mono ?_; (rintro e w9 ⟨rfl, hb9⟩); (have B9 := Lib.hid (HB8.out.trans (hb9.mono HB8.out.size))); clear hb9)
                go_ret
                exact ⟨by simp, B9.out⟩

end Go.Proofs.YtcbeiadimchknaaGreat
