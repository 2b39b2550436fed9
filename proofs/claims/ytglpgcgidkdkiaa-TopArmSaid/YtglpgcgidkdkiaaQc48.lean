/- TopArm walked: for every input it returns true. -/
import Derived.Test.YtglpgcgidkdkiaaQc47
import Derived.Test.YtglpgcgidkdkiaaQc24
import Derived.Shelf.Abstract
import Derived.Laws.EntriesVeiled
import Derived.Handy
import Derived.Deep.DrawnRows
import Derived.Deep.DeepCutAuto
import Derived.BigRegionIn
import Derived.Shelf.RegionOpen
import Derived.Deep.RegionHeld3
namespace Go.Proofs.Ytglpgcgidkdkiaa
open Go.RowKit
open Go.Sort (grow)
set_option linter.unusedVariables false
set_option linter.unusedSimpArgs false

attribute [local go_sem] Oper.semAt_some
set_option maxRecDepth 100000 in
set_option maxHeartbeats 6400000 in
theorem toparm_c (Ar : Option Addr) (nr cr : Nat) (Ad : Option Addr) (nd cd : Nat) (p : P4) (long wt : Int) (w : World) (HM : MemP Ar nr Ad nd p w) :
    Calls Try.prog 3 #[.agg #[.int .i64 p.ir, .int .i64 p.glo, .int .i64 p.ghi, .slice Ar nr cr, .slice Ad nd cd, .int .i64 p.wr], .int .i64 long, .int .i64 wt] w fun e w' => e = .returned (.bool true) ∧ Below w.heap.size w w' := by
  have HFR := Lib.hid (fun V (hV : Below w.heap.size w V) => far4_c Ar nr cr Ad nd cd p V (HM.later hV))
  cases hfar : far4 p
  case true =>
    rw [hfar] at HFR
    clear hfar HM
    obtain ⟨ir, glo, ghi, wrg, rods, res⟩ := p
    simp only at HFR ⊢
    go_enter Try.func3, Try.ntmps3
    go_upto_region 1 with (fail)
    go_name_world X hX
    have B0 : Hid (Below w.heap.size w X) := Lib.hid (al1 hX).1
    have HP0 : Hid (Blk X w.heap.size 27 #[Value.int .i64 ir, .int .i64 glo, .int .i64 ghi, .slice Ar nr cr, .slice Ad nd cd, .int .i64 wrg]) := by rw [← hX]; exact Lib.hid (Blk.new w _ _)
    have q0 := HP0.out.cell
    have l0 := HP0.out.lt
    clear hX
    go_wp2_with (first | (go_at_call 5; refine (HFR.out X B0.out).mono ?_; (rintro e w1 ⟨rfl, hb1⟩); (have B1 := Lib.hid (B0.out.trans (hb1.mono B0.out.size))); (have HP1 := Lib.hid (HP0.out.below hb1 HP0.out.lt)); (have q1 := HP1.out.cell); (have l1 := HP1.out.lt); clear hb1 q0 l0) | (go_at_call 8; refine (armed_c _).mono ?_; (rintro e w9 ⟨rfl, hb9⟩); (have B9 := Lib.hid (B1.out.trans (hb9.mono B1.out.size))); clear hb9))
    go_ret
    exact ⟨rfl, B9.out⟩
  case false =>
    rw [hfar] at HFR
    have hr := HM.hr.1
    have hd := HM.hd.1
    obtain ⟨hnr, hnd, hrdy⟩ := far4_no hfar
    rw [hr] at hnr
    rw [hd] at hnd
    have HCK0 := Lib.hid (fun V (hV : Below w.heap.size w V) => refCheck4_c Ar nr cr Ad nd cd p V hnr hnd (HM.later hV))
    cases hc : ck4 p
    case false =>
      have HCK : Hid (∀ V, Below w.heap.size w V → Calls Try.prog 6 #[.agg #[.int .i64 p.ir, .int .i64 p.glo, .int .i64 p.ghi, .slice Ar nr cr, .slice Ad nd cd, .int .i64 p.wr]] V fun e w' => e = .returned (.int .i64 40) ∧ Below V.heap.size V w') := Lib.hid (fun V hV => by have := HCK0.out V hV; rw [hc] at this; exact this)
      clear hfar HM HCK0 hrdy hc hr hd
      obtain ⟨ir, glo, ghi, wrg, rods, res⟩ := p
      simp only at HFR HCK ⊢
      go_enter Try.func3, Try.ntmps3
      go_upto_region 1 with (fail)
      go_name_world X hX
      have B0 : Hid (Below w.heap.size w X) := Lib.hid (al1 hX).1
      have HP0 : Hid (Blk X w.heap.size 27 #[Value.int .i64 ir, .int .i64 glo, .int .i64 ghi, .slice Ar nr cr, .slice Ad nd cd, .int .i64 wrg]) := by rw [← hX]; exact Lib.hid (Blk.new w _ _)
      have q0 := HP0.out.cell
      have l0 := HP0.out.lt
      clear hX
      go_wp2_with (first | (go_at_call 5; refine (HFR.out X B0.out).mono ?_; (rintro e w1 ⟨rfl, hb1⟩); (have B1 := Lib.hid (B0.out.trans (hb1.mono B0.out.size))); (have HP1 := Lib.hid (HP0.out.below hb1 HP0.out.lt)); (have q1 := HP1.out.cell); (have l1 := HP1.out.lt); clear hb1 q0 l0) | (go_at_call 6; refine (HCK.out w1 B1.out).mono ?_; (rintro e w2 ⟨rfl, hb2⟩); (have B2 := Lib.hid (B1.out.trans (hb2.mono B1.out.size))); (have HP2 := Lib.hid (HP1.out.below hb2 HP1.out.lt)); (have q2 := HP2.out.cell); (have l2 := HP2.out.lt); clear hb2 q1 l1) | (go_at_call 8; refine (armed_c _).mono ?_; (rintro e w9 ⟨rfl, hb9⟩); (have B9 := Lib.hid (B2.out.trans (hb9.mono B2.out.size))); clear hb9))
      go_ret
      exact ⟨rfl, B9.out⟩
    case true =>
      have HCK : Hid (∀ V, Below w.heap.size w V → Calls Try.prog 6 #[.agg #[.int .i64 p.ir, .int .i64 p.glo, .int .i64 p.ghi, .slice Ar nr cr, .slice Ad nd cd, .int .i64 p.wr]] V fun e w' => e = .returned (.int .i64 0) ∧ Below V.heap.size V w') := Lib.hid (fun V hV => by have := HCK0.out V hV; rw [hc] at this; exact this)
      have hrd := hrdy hc
      have hlgs := lgs_arm hc hrd
      have okp := ok4_of hc hr hd
      have hg1 := okp.g.1
      have HLE := Lib.hid (fun V (hV : Below w.heap.size w V) => lengths4_c Ar nr cr Ad nd cd p 1 V hnr hnd (HM.later hV) (fun _ => hrd.len))
      rw [show when4 1 = true from rfl] at HLE
      obtain ⟨L, hL⟩ : ∃ L, lgs4 p 1 = L := ⟨_, rfl⟩
      obtain ⟨z, hz⟩ : ∃ z, op4 p true = z := ⟨_, rfl⟩
      rw [hL, hz] at HLE
      rw [hL, hz] at hlgs
      clear hfar HM HCK0 hrdy hc hr hd hrd okp hL hz
      obtain ⟨ir, glo, ghi, wrg, rods, res⟩ := p
      simp only at HFR HCK HLE hlgs hg1 ⊢
      by_cases g1 : 1000 < ghi
      · have gB : decide (1000 < ghi) = true := decide_eq_true g1
        clear HLE hlgs
        go_enter Try.func3, Try.ntmps3
        go_upto_region 1 with (fail)
        go_name_world X hX
        have B0 : Hid (Below w.heap.size w X) := Lib.hid (al1 hX).1
        have HP0 : Hid (Blk X w.heap.size 27 #[Value.int .i64 ir, .int .i64 glo, .int .i64 ghi, .slice Ar nr cr, .slice Ad nd cd, .int .i64 wrg]) := by rw [← hX]; exact Lib.hid (Blk.new w _ _)
        have q0 := HP0.out.cell
        have l0 := HP0.out.lt
        clear hX
        go_wp2_with (first | (go_at_call 5; refine (HFR.out X B0.out).mono ?_; (rintro e w1 ⟨rfl, hb1⟩); (have B1 := Lib.hid (B0.out.trans (hb1.mono B0.out.size))); (have HP1 := Lib.hid (HP0.out.below hb1 HP0.out.lt)); (have q1 := HP1.out.cell); (have l1 := HP1.out.lt); clear hb1 q0 l0) | (go_at_call 6; refine (HCK.out w1 B1.out).mono ?_; (rintro e w2 ⟨rfl, hb2⟩); (have B2 := Lib.hid (B1.out.trans (hb2.mono B1.out.size))); (have HP2 := Lib.hid (HP1.out.below hb2 HP1.out.lt)); (have q2 := HP2.out.cell); (have l2 := HP2.out.lt); clear hb2 q1 l1) | (go_at_call 8; refine (armed_c _).mono ?_; (rintro e w9 ⟨rfl, hb9⟩); (have B9 := Lib.hid (B2.out.trans (hb9.mono B2.out.size))); clear hb9))
        go_ret
        exact ⟨rfl, B9.out⟩
      have g1B : decide (1000 < ghi) = false := decide_eq_false g1
      by_cases g2 : long < 1
      · have gB : decide (long < 1) = true := decide_eq_true g2
        clear HLE hlgs
        go_enter Try.func3, Try.ntmps3
        go_upto_region 1 with (fail)
        go_name_world X hX
        have B0 : Hid (Below w.heap.size w X) := Lib.hid (al1 hX).1
        have HP0 : Hid (Blk X w.heap.size 27 #[Value.int .i64 ir, .int .i64 glo, .int .i64 ghi, .slice Ar nr cr, .slice Ad nd cd, .int .i64 wrg]) := by rw [← hX]; exact Lib.hid (Blk.new w _ _)
        have q0 := HP0.out.cell
        have l0 := HP0.out.lt
        clear hX
        go_wp2_with (first | (go_at_call 5; refine (HFR.out X B0.out).mono ?_; (rintro e w1 ⟨rfl, hb1⟩); (have B1 := Lib.hid (B0.out.trans (hb1.mono B0.out.size))); (have HP1 := Lib.hid (HP0.out.below hb1 HP0.out.lt)); (have q1 := HP1.out.cell); (have l1 := HP1.out.lt); clear hb1 q0 l0) | (go_at_call 6; refine (HCK.out w1 B1.out).mono ?_; (rintro e w2 ⟨rfl, hb2⟩); (have B2 := Lib.hid (B1.out.trans (hb2.mono B1.out.size))); (have HP2 := Lib.hid (HP1.out.below hb2 HP1.out.lt)); (have q2 := HP2.out.cell); (have l2 := HP2.out.lt); clear hb2 q1 l1) | (go_at_call 8; refine (armed_c _).mono ?_; (rintro e w9 ⟨rfl, hb9⟩); (have B9 := Lib.hid (B2.out.trans (hb9.mono B2.out.size))); clear hb9))
        go_ret
        exact ⟨rfl, B9.out⟩
      have g2B : decide (long < 1) = false := decide_eq_false g2
      by_cases g3 : 1000 < long
      · have gB : decide (1000 < long) = true := decide_eq_true g3
        clear HLE hlgs
        go_enter Try.func3, Try.ntmps3
        go_upto_region 1 with (fail)
        go_name_world X hX
        have B0 : Hid (Below w.heap.size w X) := Lib.hid (al1 hX).1
        have HP0 : Hid (Blk X w.heap.size 27 #[Value.int .i64 ir, .int .i64 glo, .int .i64 ghi, .slice Ar nr cr, .slice Ad nd cd, .int .i64 wrg]) := by rw [← hX]; exact Lib.hid (Blk.new w _ _)
        have q0 := HP0.out.cell
        have l0 := HP0.out.lt
        clear hX
        go_wp2_with (first | (go_at_call 5; refine (HFR.out X B0.out).mono ?_; (rintro e w1 ⟨rfl, hb1⟩); (have B1 := Lib.hid (B0.out.trans (hb1.mono B0.out.size))); (have HP1 := Lib.hid (HP0.out.below hb1 HP0.out.lt)); (have q1 := HP1.out.cell); (have l1 := HP1.out.lt); clear hb1 q0 l0) | (go_at_call 6; refine (HCK.out w1 B1.out).mono ?_; (rintro e w2 ⟨rfl, hb2⟩); (have B2 := Lib.hid (B1.out.trans (hb2.mono B1.out.size))); (have HP2 := Lib.hid (HP1.out.below hb2 HP1.out.lt)); (have q2 := HP2.out.cell); (have l2 := HP2.out.lt); clear hb2 q1 l1) | (go_at_call 8; refine (armed_c _).mono ?_; (rintro e w9 ⟨rfl, hb9⟩); (have B9 := Lib.hid (B2.out.trans (hb9.mono B2.out.size))); clear hb9))
        go_ret
        exact ⟨rfl, B9.out⟩
      have g3B : decide (1000 < long) = false := decide_eq_false g3
      cases hak : ask3 wt 0 0
      case false =>
        clear HLE hlgs
        go_enter Try.func3, Try.ntmps3
        go_upto_region 1 with (fail)
        go_name_world X hX
        have B0 : Hid (Below w.heap.size w X) := Lib.hid (al1 hX).1
        have HP0 : Hid (Blk X w.heap.size 27 #[Value.int .i64 ir, .int .i64 glo, .int .i64 ghi, .slice Ar nr cr, .slice Ad nd cd, .int .i64 wrg]) := by rw [← hX]; exact Lib.hid (Blk.new w _ _)
        have q0 := HP0.out.cell
        have l0 := HP0.out.lt
        clear hX
        go_wp2_with (first | (go_at_call 5; refine (HFR.out X B0.out).mono ?_; (rintro e w1 ⟨rfl, hb1⟩); (have B1 := Lib.hid (B0.out.trans (hb1.mono B0.out.size))); (have HP1 := Lib.hid (HP0.out.below hb1 HP0.out.lt)); (have q1 := HP1.out.cell); (have l1 := HP1.out.lt); clear hb1 q0 l0) | (go_at_call 6; refine (HCK.out w1 B1.out).mono ?_; (rintro e w2 ⟨rfl, hb2⟩); (have B2 := Lib.hid (B1.out.trans (hb2.mono B1.out.size))); (have HP2 := Lib.hid (HP1.out.below hb2 HP1.out.lt)); (have q2 := HP2.out.cell); (have l2 := HP2.out.lt); clear hb2 q1 l1) | (go_at_call 7; refine (refAsk3_c wt 0 0 _).mono ?_; (rintro e w3 ⟨rfl, rfl⟩); simp only [hak]) | (go_at_call 8; refine (armed_c _).mono ?_; (rintro e w9 ⟨rfl, hb9⟩); (have B9 := Lib.hid (B2.out.trans (hb9.mono B2.out.size))); clear hb9))
        go_ret
        exact ⟨rfl, B9.out⟩
      case true =>
        rcases hlgs with ⟨rfl, rfl⟩ | ⟨rfl, m, hlen, hm8, hin, hmono⟩
        case inl =>
          go_enter Try.func3, Try.ntmps3
          go_upto_region 1 with (fail)
          go_name_world X hX
          have B0 : Hid (Below w.heap.size w X) := Lib.hid (al1 hX).1
          have HP0 : Hid (Blk X w.heap.size 27 #[Value.int .i64 ir, .int .i64 glo, .int .i64 ghi, .slice Ar nr cr, .slice Ad nd cd, .int .i64 wrg]) := by rw [← hX]; exact Lib.hid (Blk.new w _ _)
          have q0 := HP0.out.cell
          have l0 := HP0.out.lt
          clear hX
          go_wp2_with (first | (go_at_call 5; refine (HFR.out X B0.out).mono ?_; (rintro e w1 ⟨rfl, hb1⟩); (have B1 := Lib.hid (B0.out.trans (hb1.mono B0.out.size))); (have HP1 := Lib.hid (HP0.out.below hb1 HP0.out.lt)); (have q1 := HP1.out.cell); (have l1 := HP1.out.lt); clear hb1 q0 l0) | (go_at_call 6; refine (HCK.out w1 B1.out).mono ?_; (rintro e w2 ⟨rfl, hb2⟩); (have B2 := Lib.hid (B1.out.trans (hb2.mono B1.out.size))); (have HP2 := Lib.hid (HP1.out.below hb2 HP1.out.lt)); (have q2 := HP2.out.cell); (have l2 := HP2.out.lt); clear hb2 q1 l1) | (go_at_call 7; refine (refAsk3_c wt 0 0 _).mono ?_; (rintro e w3 ⟨rfl, rfl⟩); simp only [hak]) | (go_at_call 9; refine (HLE.out w2 B2.out).mono ?_; (rintro e w4 ⟨A, c, rfl, hI, hb4⟩); (have B4 := Lib.hid (B2.out.trans (hb4.mono B2.out.size))); clear hb4 q2 l2) | (go_at_call 8; refine (armed_c _).mono ?_; (rintro e w9 ⟨rfl, hb9⟩); (have B9 := Lib.hid (B4.out.trans (hb9.mono B4.out.size))); clear hb9))
          go_ret
          exact ⟨rfl, B9.out⟩
        case inr =>
          have hwt : 0 ≤ wt ∧ wt ≤ 9999 := by
            have := hak
            unfold ask3 at this
            simp only [Bool.and_eq_true, wn_true] at this
            omega
          have HLA := Lib.hid (fun (Al : Option Addr) (lo hi : Int) (W : World) (h2 : 1 ≤ lo ∧ lo ≤ hi ∧ hi ≤ 1000) (HL : LvsAt W Al 1 [⟨long, lo, hi⟩]) => LoadArm_c Al long lo hi wt W (by omega) h2 hak HL)
          rw [hlen] at HLE
          obtain ⟨n, hn⟩ : ∃ n, m + 1 = n := ⟨_, rfl⟩
          rw [hn] at HLE hin hmono
          obtain ⟨least, h0⟩ : ∃ x, iAt L 0 = x := ⟨_, rfl⟩
          obtain ⟨most, h1⟩ : ∃ x, iAt L m = x := ⟨_, rfl⟩
          have b0 := hin 0 (by omega)
          have b1 := hin m (by omega)
          have b2 := hmono 0 m (by omega) (by omega)
          rw [h0] at b0 b2
          rw [h1] at b1 b2
          have HIN := Lib.hid (fun k (hk : k < n) => (And.intro (by have := hmono 0 k (by omega) hk; rw [h0] at this; exact this) (by have := hmono k m (by omega) (by omega); rw [h1] at this; exact this) : least ≤ iAt L k ∧ iAt L k ≤ most))
          have d0 : decide ((n : Int) < 1) = false := decide_eq_false (by omega)
          have d1 : decide ((40 : Int) < n) = false := decide_eq_false (by omega)
          have d2 : decide (least < glo) = false := decide_eq_false (by omega)
          have d3 : decide (ghi < most) = false := decide_eq_false (by omega)
          have d4 : decide (most < least) = false := decide_eq_false (by omega)
          have v0 : IntKind.i64.wrap ((n : Int) - 1) = (m : Nat) := by rw [IntWalk.i64_in _ (by omega)]; omega
          have i0 : 0 < n := by omega
          have i1 : m < n := by omega
          clear hin hmono hlen
          go_enter Try.func3, Try.ntmps3
          go_upto_region 1 with (fail)
          go_name_world X hX
          have B0 : Hid (Below w.heap.size w X) := Lib.hid (al1 hX).1
          have HP0 : Hid (Blk X w.heap.size 27 #[Value.int .i64 ir, .int .i64 glo, .int .i64 ghi, .slice Ar nr cr, .slice Ad nd cd, .int .i64 wrg]) := by rw [← hX]; exact Lib.hid (Blk.new w _ _)
          have q0 := HP0.out.cell
          have l0 := HP0.out.lt
          clear hX
          go_upto_region 6 with (first | (go_at_call 5; refine (HFR.out X B0.out).mono ?_; (rintro e w1 ⟨rfl, hb1⟩); (have B1 := Lib.hid (B0.out.trans (hb1.mono B0.out.size))); (have HP1 := Lib.hid (HP0.out.below hb1 HP0.out.lt)); (have q1 := HP1.out.cell); (have l1 := HP1.out.lt); clear hb1 q0 l0) | (go_at_call 6; refine (HCK.out w1 B1.out).mono ?_; (rintro e w2 ⟨rfl, hb2⟩); (have B2 := Lib.hid (B1.out.trans (hb2.mono B1.out.size))); (have HP2 := Lib.hid (HP1.out.below hb2 HP1.out.lt)); (have q2 := HP2.out.cell); (have l2 := HP2.out.lt); clear hb2 q1 l1) | (go_at_call 7; refine (refAsk3_c wt 0 0 _).mono ?_; (rintro e w3 ⟨rfl, rfl⟩); simp only [hak]) | (go_at_call 9; refine (HLE.out w2 B2.out).mono ?_; (rintro e w4 ⟨A, c, rfl, hI, hb4⟩); (have HI4 := Lib.hid hI); (have B4 := Lib.hid (B2.out.trans (hb4.mono B2.out.size))); (have HP4 := Lib.hid (HP2.out.below hb4 HP2.out.lt)); (have q4 := HP4.out.cell); (have l4 := HP4.out.lt); clear hb4 q2 l2 hI))
          obtain ⟨b, o, hA, hbl, x0⟩ := HI4.out.get i0
          obtain ⟨b', o', hA', -, x1⟩ := HI4.out.get i1
          rw [hA] at hA'
          cases hA'
          subst hA
          rw [h0, Nat.add_zero] at x0
          rw [h1] at x1
          have hcq := fun p : Regrown => (bcell (below_regrown w4 p.d p.os)).1
          refine wp_region_quiet_below (by kernel_rfl) (by kernel_rfl) ?_
          repeat (go_big_quiet_step ((fail)))
          refine wpQuiet_nil ?_
          intro w5 hq
          obtain ⟨pq, hq⟩ := hq
          have hb5 : Below w4.heap.size w4 w5 := by rw [hq]; exact below_regrown _ _ _
          clear hq hcq pq
          obtain ⟨hc5, hf5⟩ := bcell hb5
          have z5 := hb5.size
          have x0' := (hc5 b o hbl).trans x0
          have x1' := (hc5 b (o + m) hbl).trans x1
          have hbl5 := Nat.lt_of_lt_of_le hbl z5
          have HI5 := Lib.hid (HI4.out.later hb5)
          have B5 := Lib.hid (B4.out.trans (hb5.mono B4.out.size))
          clear hc5 hf5 hb5 x0 x1 q4 l4
          go_upto_region 8 with (fail)
          have hcq := fun p : Regrown => (bcell (below_regrown w5 p.d p.os)).1
          refine wp_region_quiet_below (by kernel_rfl) (by kernel_rfl) ?_
          repeat (go_big_quiet_step ((fail)))
          refine wpQuiet_nil ?_
          intro w6 hq
          obtain ⟨pq, hq⟩ := hq
          have hb6 : Below w5.heap.size w5 w6 := by rw [hq]; exact below_regrown _ _ _
          clear hq hcq pq
          obtain ⟨hc6, hf6⟩ := bcell hb6
          have z6 := hb6.size
          have HI6 := Lib.hid (HI5.out.later hb6)
          have B6 := Lib.hid (B5.out.trans (hb6.mono B5.out.size))
          have hbl6 := Nat.lt_of_lt_of_le hbl5 z6
          clear hc6 hf6 hb6 x0' x1'
          clear d0 d1 d2 d3 d4 v0
          have t0 : 0 ≤ wt * long := Int.mul_nonneg hwt.1 (by omega)
          have t1 : wt * long ≤ 9999 * 1000 := Int.mul_le_mul hwt.2 (by omega) (by omega) (by omega)
          obtain ⟨P, hP⟩ : ∃ x, wt * long = x := ⟨_, rfl⟩
          rw [hP] at t0 t1
          have HLM := HLA.out
          obtain ⟨s0, hs0⟩ : ∃ x, P / most = x := ⟨_, rfl⟩
          obtain ⟨s1, hs1⟩ : ∃ x, (P + least - 1) / least = x := ⟨_, rfl⟩
          have HL0 : Hid (∀ (Al : Option Addr) (W : World), LvsAt W Al 1 [⟨long, least, most⟩] → Calls Try.prog 10 #[.agg #[.slice Al 1 1, .int .i64 0, .int .i64 0, .int .i64 0, .slice none 0 0, .int .i64 0], .int .i64 wt, .int .i64 0] W fun e w' => e = .returned (.tuple #[.agg #[.int .i64 s0, .int .i64 s1], .int .i64 0]) ∧ Below W.heap.size W w') := Lib.hid (fun Al W HL => by have := HLA.out Al least most W (by omega) HL; rw [hP, hs0, hs1] at this; exact this)
          have HL1 : Hid (∀ (x : Int) (Al : Option Addr) (W : World), (least ≤ x ∧ x ≤ most) → LvsAt W Al 1 [⟨long, x, x⟩] → Calls Try.prog 10 #[.agg #[.slice Al 1 1, .int .i64 0, .int .i64 0, .int .i64 0, .slice none 0 0, .int .i64 0], .int .i64 wt, .int .i64 0] W fun e w' => e = .returned (.tuple #[.agg #[.int .i64 (P / x), .int .i64 ((P + x - 1) / x)], .int .i64 0]) ∧ Below W.heap.size W w') := Lib.hid (fun x Al W hx HL => by have := HLA.out Al x x W (by omega) HL; rw [hP] at this; exact this)
          have HSS : Hid (∀ x, least ≤ x ∧ x ≤ most → s0 ≤ P / x ∧ (P + x - 1) / x ≤ s1 ∧ (P + x - 1) / x ≤ P / x + 1 ∧ 0 ≤ P / x ∧ P / x ≤ P) := Lib.hid (fun x hx => ⟨by rw [← hs0]; exact div_anti t0 (by omega) hx.2, by rw [← hs1]; exact up_anti t0 (by omega) hx.1, up_next (by omega), Int.ediv_nonneg t0 (by omega), Int.ediv_le_self _ t0⟩)
          have g0 : 0 ≤ s0 ∧ s0 ≤ P := by rw [← hs0]; exact ⟨Int.ediv_nonneg t0 (by omega), Int.ediv_le_self _ t0⟩
          have g4 : 0 ≤ s1 ∧ s1 ≤ P + least - 1 := by rw [← hs1]; exact ⟨Int.ediv_nonneg (by omega) (by omega), Int.ediv_le_self _ (by omega)⟩
          have u0 : IntKind.i64.wrap (wt * long) = P := by rw [hP]; exact IntWalk.i64_in _ (by omega)
          have u1 : IntKind.i64.wrap (P + least) = P + least := IntWalk.i64_in _ (by omega)
          have u2 : IntKind.i64.wrap (P + least - 1) = P + least - 1 := IntWalk.i64_in _ (by omega)
          have u3 : IntKind.i64.wrap (P.tdiv most) = s0 := by rw [Int.tdiv_eq_ediv_of_nonneg t0, hs0]; exact IntWalk.i64_in _ (by omega)
          have u4 : IntKind.i64.wrap ((P + least - 1).tdiv least) = s1 := by rw [Int.tdiv_eq_ediv_of_nonneg (by omega), hs1]; exact IntWalk.i64_in _ (by omega)
          have n0 : ¬ least = 0 := by omega
          have n1 : ¬ most = 0 := by omega
          clear hs0 hs1 hP HLM h0 h1 g0 g4
          go_upto_region 10 with (first | (go_at_call 11; refine (arm_c _ _ _ _).mono ?_; (rintro e w7 ⟨Al, rfl, hA, hb7⟩); (have HA7 := Lib.hid hA); (have HI7 := Lib.hid (HI6.out.later hb7)); (have B7 := Lib.hid (B6.out.trans (hb7.mono B6.out.size))); clear hb7 hA) | (go_at_call 10; refine (HL0.out Al w7 HA7.out).mono ?_; (rintro e w8 ⟨rfl, hb8⟩); (have HI8 := Lib.hid (HI7.out.later hb8)); (have B8 := Lib.hid (B7.out.trans (hb8.mono B7.out.size))); clear hb8))
          go_name_world V hV
          have BV := (al1 hV).1
          have HSP := Lib.hid (al1_0 hV)
          have HVS : Hid (Blk V w8.heap.size 23 #[.int .i64 s0, .int .i64 s1]) := by rw [← hV]; exact Lib.hid (Blk.new w8 _ _)
          obtain ⟨gs, hgs⟩ : ∃ x, w8.heap.size = x := ⟨_, rfl⟩
          have B9 := Lib.hid (B8.out.trans (BV.mono B8.out.size))
          have HI9 := Lib.hid (HI8.out.later BV)
          rw [hgs] at HVS ⊢
          have q9 := HVS.out.cell
          have l9 := HVS.out.lt
          clear hV BV HSP hgs
          have hcq := fun p : Regrown => (bcell (below_regrown V p.d p.os)).1
          refine wp_region_quiet_below (by kernel_rfl) (by kernel_rfl) ?_
          repeat (go_big_quiet_step ((fail)))
          refine wpQuiet_nil ?_
          intro w10 hq
          obtain ⟨pq, hq⟩ := hq
          have hb10 : Below V.heap.size V w10 := by rw [hq]; exact below_regrown _ _ _
          clear hq hcq pq
          obtain ⟨hc10, hf10⟩ := bcell hb10
          have z10 := hb10.size
          have HI10 := Lib.hid (HI9.out.later hb10)
          have B10 := Lib.hid (B9.out.trans (hb10.mono B9.out.size))
          have HV10 := Lib.hid (HVS.out.below hb10 HVS.out.lt)
          clear hc10 hf10 hb10 q9 l9 u0 u1 u2 u3 u4
          go_wp2_with fail
          go_loopw [12] (fun i (wr : World) => ∃ k : Nat, k ≤ n ∧ i = .int .i64 k ∧ Below w10.heap.size w10 wr) (fun i _ => n - (intOf i).toNat)
          case atStart => exact ⟨0, by omega, by simp, Below.refl _ _⟩
          case round =>
            obtain ⟨k, hk, rfl, hbr⟩ := hrel
            have zr := hbr.size
            have HIR := Lib.hid (HI10.out.later hbr)
            have HVR := Lib.hid (HV10.out.below hbr HV10.out.lt)
            have BR := Lib.hid (B10.out.trans (hbr.mono B10.out.size))
            by_cases hkn : k < n
            · have hkB : decide ((k : Int) < n) = true := decide_eq_true (by omega)
              have vk : IntKind.i64.wrap ((k : Int) + 1) = (k : Int) + 1 := IntWalk.i64_in _ (by omega)
              obtain ⟨b', o', hA', hbl', xk⟩ := HIR.out.get hkn
              cases hA'
              have hx := HIN.out k hkn
              have HX := Lib.hid (HSS.out _ hx)
              obtain ⟨x, hxe⟩ : ∃ x, iAt L k = x := ⟨_, rfl⟩
              rw [hxe] at xk hx HX
              have e0 : decide (x < least) = false := decide_eq_false (by omega)
              have e1 : decide (most < x) = false := decide_eq_false (by omega)
              clear hxe
              go_upto_region 17 with (fail)
              have HSS : Hid (∀ W', Below wr.heap.size wr W' → W'.cell? ⟨b, o + k, none⟩ = some (.int .i64 x)) := Lib.hid (fun W' h => (h.cell (p := ⟨b, o + k, none⟩) hbl').trans xk)
              clear xk
              go_cut [13, 14] (fun t13 t14 (V : World) => ∃ g : Nat, t13 = .pointer (some ⟨g, 0, none⟩) ∧ t14 = .int .i64 0 ∧ g < V.heap.size ∧ Hid (Below wr.heap.size wr V) ∧ Hid (V.cell? ⟨g, 0, none⟩ = some (.int .i64 (P / x)) ∧ V.cell? ⟨g, 1, none⟩ = some (.int .i64 ((P + x - 1) / x))))
              case first =>
                as_aux_lemma =>
                  refine wp_region_L (by kernel_rfl) (fun W' => W'.cell? ⟨b, o + k, none⟩ = some (.int .i64 x)) 99 ?_
                  obtain ⟨Y, hY⟩ : ∃ Y, wr.drew = Y := ⟨_, rfl⟩
                  rw [hY]
                  have BY : Below wr.heap.size wr Y := by rw [← hY]; (repeat first | with_reducible assumption | with_reducible exact Below.refl _ _ | (with_reducible refine Below.alloc ?_ ?side _; case side => (first | omega | (with_reducible exact Below.size (by assumption)) | (simp; done) | (simp; omega))) | (with_reducible refine Below.setCell ?_ ?side _; case side => (first | omega | (with_reducible exact Below.size (by assumption)) | (simp; done) | (simp; omega))) | with_reducible refine Below.drew ?_ | with_reducible refine below_drewN ?_ _ | (with_reducible refine below_step (by assumption) ?side ?_; case side => (first | omega | (with_reducible exact Below.size (by assumption)) | (simp; done) | (simp; omega))))
                  clear hY
                  have hS := HSS.out Y BY
                  refine wpAnyL_take (i := 0) (v := ?_) rfl (by kernel_rfl) (by kernel_rfl) (by kernel_rfl) (by kernel_rfl) (fun _ _ _ h => h) hS (Or.inl ⟨by rfl, ?_⟩) ?_
                  rotate_left 1
                  · intro w9 hw9
                    go_simp
                    try with_reducible rfl
                  try simp only [List.getElem_toArray, List.getElem_cons_zero, Act.put, List.setIfInBounds_toArray, List.set_cons_zero, List.set_cons_succ]
                  refine wpAnyL_take (i := 1) (v := ?_) rfl (by kernel_rfl) (by kernel_rfl) (by kernel_rfl) (by kernel_rfl) (fun _ _ _ h => h) hS (Or.inl ⟨by rfl, ?_⟩) ?_
                  rotate_left 1
                  · intro w9 hw9
                    go_simp
                    try with_reducible rfl
                  try simp only [List.getElem_toArray, List.getElem_cons_zero, List.getElem_cons_succ, Act.put, List.setIfInBounds_toArray, List.set_cons_zero, List.set_cons_succ]
                  refine wpAnyL_take (i := 2) (v := ?_) rfl (by kernel_rfl) (by kernel_rfl) (by kernel_rfl) (by kernel_rfl) (fun _ _ _ h => h) hS (Or.inl ⟨by rfl, ?_⟩) ?_
                  rotate_left 1
                  · intro w9 hw9
                    go_simp
                    try with_reducible rfl
                  try simp only [List.getElem_toArray, List.getElem_cons_zero, List.getElem_cons_succ, Act.put, List.setIfInBounds_toArray, List.set_cons_zero, List.set_cons_succ]
                  refine wpAnyL_take (i := 3) (v := ?_) rfl (by kernel_rfl) (by kernel_rfl) (by kernel_rfl) (by kernel_rfl) (fun _ _ _ h => h) hS (Or.inl ⟨by rfl, ?_⟩) ?_
                  rotate_left 1
                  · intro w9 hw9
                    go_simp
                    try with_reducible rfl
                  try simp only [List.getElem_toArray, List.getElem_cons_zero, List.getElem_cons_succ, Act.put, List.setIfInBounds_toArray, List.set_cons_zero, List.set_cons_succ]
                  refine wpAnyL_take (i := 4) (v := ?_) rfl (by kernel_rfl) (by kernel_rfl) (by kernel_rfl) (by kernel_rfl) (fun _ _ _ h => h) hS (Or.inl ⟨by rfl, ?_⟩) ?_
                  rotate_left 1
                  · intro w9 hw9
                    go_simp
                    try with_reducible rfl
                  try simp only [List.getElem_toArray, List.getElem_cons_zero, List.getElem_cons_succ, Act.put, List.setIfInBounds_toArray, List.set_cons_zero, List.set_cons_succ]
                  refine wpAnyL_take (i := 5) (v := ?_) rfl (by kernel_rfl) (by kernel_rfl) (by kernel_rfl) (by kernel_rfl) (fun _ _ _ h => h) hS (Or.inl ⟨by rfl, ?_⟩) ?_
                  rotate_left 1
                  · intro w9 hw9
                    go_simp
                    try with_reducible rfl
                  try simp only [List.getElem_toArray, List.getElem_cons_zero, List.getElem_cons_succ, Act.put, List.setIfInBounds_toArray, List.set_cons_zero, List.set_cons_succ]
                  refine wpAnyL_take (i := 6) (v := ?_) rfl (by kernel_rfl) (by kernel_rfl) (by kernel_rfl) (by kernel_rfl) (fun _ _ _ h => h) hS (Or.inl ⟨by rfl, ?_⟩) ?_
                  rotate_left 1
                  · intro w9 hw9
                    go_simp
                    try with_reducible rfl
                  try simp only [List.getElem_toArray, List.getElem_cons_zero, List.getElem_cons_succ, Act.put, List.setIfInBounds_toArray, List.set_cons_zero, List.set_cons_succ]
                  refine wpAnyL_take (i := 7) (v := ?_) rfl (by kernel_rfl) (by kernel_rfl) (by kernel_rfl) (by kernel_rfl) (fun _ _ _ h => h) hS (Or.inl ⟨by rfl, ?_⟩) ?_
                  rotate_left 1
                  · intro w9 hw9
                    go_simp
                    try with_reducible rfl
                  try simp only [List.getElem_toArray, List.getElem_cons_zero, List.getElem_cons_succ, Act.put, List.setIfInBounds_toArray, List.set_cons_zero, List.set_cons_succ]
                  refine wpAnyL_take (i := 8) (v := ?_) rfl (by kernel_rfl) (by kernel_rfl) (by kernel_rfl) (by kernel_rfl) (fun _ _ _ h => h) hS (Or.inl ⟨by rfl, ?_⟩) ?_
                  rotate_left 1
                  · intro w9 hw9
                    go_simp
                    try with_reducible rfl
                  try simp only [List.getElem_toArray, List.getElem_cons_zero, List.getElem_cons_succ, Act.put, List.setIfInBounds_toArray, List.set_cons_zero, List.set_cons_succ]
                  refine wpAnyL_take (i := 10) (v := ?_) rfl (by kernel_rfl) (by kernel_rfl) (by kernel_rfl) (by kernel_rfl) (fun _ _ _ h => h) hS (Or.inl ⟨by rfl, ?_⟩) ?_
                  rotate_left 1
                  · intro w9 hw9
                    go_simp
                    try with_reducible rfl
                  try simp only [List.getElem_toArray, List.getElem_cons_zero, List.getElem_cons_succ, Act.put, List.setIfInBounds_toArray, List.set_cons_zero, List.set_cons_succ]
                  clear hS
                  refine wpAnyL_two (i := 9) (j := 15) (by kernel_rfl) rfl rfl (fun K hK => ?_) (fun K hK => ?_)
                  · skip
                    first | (go_simp; go_at_call 11) | (refine wpAnyL_one (i := 9) (by kernel_rfl) rfl (fun K hK => ?_); go_simp; go_at_call 11)
                    refine (arm_c _ _ _ _).mono ?_
                    rintro e w17 ⟨Ak, rfl, hA, hb17⟩
                    have HA17 := Lib.hid hA
                    have B17 := Below.trans BY (hb17.mono (Below.size BY))
                    have HB17 := Lib.hid hb17
                    clear hA hb17
                    refine hK.out _ _ (fun _ => HSS.out _ B17) (fun _ => ?_)
                    clear hK K
                    try simp only [List.getElem_toArray, List.getElem_cons_zero, List.getElem_cons_succ, Act.put, List.setIfInBounds_toArray, List.set_cons_zero, List.set_cons_succ]
                    refine wpAnyL_two (i := 11) (j := 15) (by kernel_rfl) rfl rfl (fun K hK => ?_) (fun K hK => ?_)
                    · skip
                      first | (go_simp; go_at_call 10) | (refine wpAnyL_one (i := 11) (by kernel_rfl) rfl (fun K hK => ?_); go_simp; go_at_call 10)
                      refine (HL1.out x Ak _ hx HA17.out).mono ?_
                      rintro e w18 ⟨rfl, hb18⟩
                      have B18 := Below.trans B17 (hb18.mono (Below.size B17))
                      have HB18 := Lib.hid hb18
                      clear hb18
                      refine hK.out _ _ (fun _ => HSS.out _ B18) (fun _ => ?_)
                      clear hK K
                      try simp only [List.getElem_toArray, List.getElem_cons_zero, List.getElem_cons_succ, Act.put, List.setIfInBounds_toArray, List.set_cons_zero, List.set_cons_succ]
                      have hS := HSS.out w18 B18
                      refine wpAnyL_take (i := 12) (v := ?_) rfl (by kernel_rfl) (by kernel_rfl) (by kernel_rfl) (by kernel_rfl) (fun _ _ _ h => h) hS (Or.inl ⟨by rfl, ?_⟩) ?_
                      rotate_left 1
                      · intro w9 hw9
                        go_simp
                        try with_reducible rfl
                      try simp only [List.getElem_toArray, List.getElem_cons_zero, List.getElem_cons_succ, Act.put, List.setIfInBounds_toArray, List.set_cons_zero, List.set_cons_succ]
                      refine wpAnyL_take (i := 13) (v := ?_) rfl (by kernel_rfl) (by kernel_rfl) (by kernel_rfl) (by kernel_rfl) (fun _ _ _ h => h) hS (Or.inl ⟨by rfl, ?_⟩) ?_
                      rotate_left 1
                      · intro w9 hw9
                        go_simp
                        try with_reducible rfl
                      try simp only [List.getElem_toArray, List.getElem_cons_zero, List.getElem_cons_succ, Act.put, List.setIfInBounds_toArray, List.set_cons_zero, List.set_cons_succ]
                      refine wpAnyL_take (i := 14) (v := ?_) rfl (by kernel_rfl) (by kernel_rfl) (by kernel_rfl) (by kernel_rfl) (fun _ _ _ h => h) hS (Or.inl ⟨by rfl, ?_⟩) ?_
                      rotate_left 1
                      · intro w9 hw9
                        go_simp
                        try with_reducible rfl
                      try simp only [List.getElem_toArray, List.getElem_cons_zero, List.getElem_cons_succ, Act.put, List.setIfInBounds_toArray, List.set_cons_zero, List.set_cons_succ]
                      clear hS
                      try refine wpAnyL_one (i := 15) (by kernel_rfl) rfl (fun K hK => ?_)
                      go_simp
                      obtain ⟨Z, hZ⟩ : ∃ Z, World.alloc w18 (.cells #[.int .i64 0, .int .i64 0] 23) = Z := ⟨_, rfl⟩
                      rw [hZ]
                      have BZ0 : Below (w18).heap.size w18 Z := (al1 hZ).1
                      have BZ : Below wr.heap.size wr Z := Below.trans B18 (BZ0.mono (Below.size B18))
                      have HZ0 : Hid (Blk Z (w18).heap.size 23 #[.int .i64 0, .int .i64 0]) := by rw [← hZ]; exact Lib.hid (Blk.new _ _ _)
                      clear hZ
                      refine hK.out _ _ (fun _ => HSS.out _ BZ) (fun _ => ?_)
                      clear hK K
                      try simp only [List.getElem_toArray, List.getElem_cons_zero, List.getElem_cons_succ, Act.put, List.setIfInBounds_toArray, List.set_cons_zero, List.set_cons_succ]
                      have zz := HZ0.out.lt
                      have kz := (HZ0).out.cell
                      have fz := (HZ0).out.frozen
                      have lz := (HZ0).out.lt
                      refine wpAnyL_one (i := 16) (by kernel_rfl) rfl (fun K hK => ?_)
                      go_simp
                      refine hK.out _ _ (fun _ => HSS.out _ (Below.setCell (p := ⟨w18.heap.size, 1, none⟩) (Below.setCell (p := ⟨w18.heap.size, 0, none⟩) BZ B18.size _) B18.size _)) (fun _ => ?_)
                      clear hK K
                      try simp only [List.getElem_toArray, List.getElem_cons_zero, List.getElem_cons_succ, Act.put, List.setIfInBounds_toArray, List.set_cons_zero, List.set_cons_succ]
                      clear kz fz lz
                      refine wpAnyL_one (i := 17) (by kernel_rfl) rfl (fun K hK => ?_)
                      go_simp
                      refine hK.out _ _ (fun _ => HSS.out _ (Below.setCell (p := ⟨w18.heap.size, 1, none⟩) (Below.setCell (p := ⟨w18.heap.size, 0, none⟩) BZ B18.size _) B18.size _)) (fun _ => ?_)
                      clear hK K
                      refine wpAnyL_done (by kernel_rfl) ?_ _
                      go_wp2_with fail
                      go_meet
                      exact ⟨w18.heap.size, rfl, rfl, by simpa using zz, Lib.hid (Below.setCell (p := ⟨w18.heap.size, 1, none⟩) (Below.setCell (p := ⟨w18.heap.size, 0, none⟩) BZ B18.size _) B18.size _), Lib.hid ⟨(World.cell?_setCell_other _ _ _ _ (by simp)).trans (World.cell?_setCell_same' _ _ _ (by rw [HZ0.out.cell 0]; rfl)), World.cell?_setCell_same' _ _ _ (by rw [World.cell?_setCell_other _ _ _ _ (by simp), HZ0.out.cell 1]; rfl)⟩⟩
                    · skip
                      try refine wpAnyL_one (i := 15) (by kernel_rfl) rfl (fun K hK => ?_)
                      go_simp
                      obtain ⟨Z, hZ⟩ : ∃ Z, World.alloc w17 (.cells #[.int .i64 0, .int .i64 0] 23) = Z := ⟨_, rfl⟩
                      rw [hZ]
                      have BZ0 : Below (w17).heap.size w17 Z := (al1 hZ).1
                      have BZ : Below wr.heap.size wr Z := Below.trans B17 (BZ0.mono (Below.size B17))
                      have HZ0 : Hid (Blk Z (w17).heap.size 23 #[.int .i64 0, .int .i64 0]) := by rw [← hZ]; exact Lib.hid (Blk.new _ _ _)
                      clear hZ
                      refine hK.out _ _ (fun _ => HSS.out _ BZ) (fun _ => ?_)
                      clear hK K
                      try simp only [List.getElem_toArray, List.getElem_cons_zero, List.getElem_cons_succ, Act.put, List.setIfInBounds_toArray, List.set_cons_zero, List.set_cons_succ]
                      first | (go_simp; go_at_call 10) | (refine wpAnyL_one (i := 11) (by kernel_rfl) rfl (fun K hK => ?_); go_simp; go_at_call 10)
                      refine (HL1.out x Ak _ hx (HA17.out.later BZ0)).mono ?_
                      rintro e w18 ⟨rfl, hb18⟩
                      have B18 := Below.trans BZ (hb18.mono (Below.size BZ))
                      have HB18 := Lib.hid hb18
                      clear hb18
                      refine hK.out _ _ (fun _ => HSS.out _ B18) (fun _ => ?_)
                      clear hK K
                      try simp only [List.getElem_toArray, List.getElem_cons_zero, List.getElem_cons_succ, Act.put, List.setIfInBounds_toArray, List.set_cons_zero, List.set_cons_succ]
                      have hS := HSS.out w18 B18
                      refine wpAnyL_take (i := 12) (v := ?_) rfl (by kernel_rfl) (by kernel_rfl) (by kernel_rfl) (by kernel_rfl) (fun _ _ _ h => h) hS (Or.inl ⟨by rfl, ?_⟩) ?_
                      rotate_left 1
                      · intro w9 hw9
                        go_simp
                        try with_reducible rfl
                      try simp only [List.getElem_toArray, List.getElem_cons_zero, List.getElem_cons_succ, Act.put, List.setIfInBounds_toArray, List.set_cons_zero, List.set_cons_succ]
                      refine wpAnyL_take (i := 13) (v := ?_) rfl (by kernel_rfl) (by kernel_rfl) (by kernel_rfl) (by kernel_rfl) (fun _ _ _ h => h) hS (Or.inl ⟨by rfl, ?_⟩) ?_
                      rotate_left 1
                      · intro w9 hw9
                        go_simp
                        try with_reducible rfl
                      try simp only [List.getElem_toArray, List.getElem_cons_zero, List.getElem_cons_succ, Act.put, List.setIfInBounds_toArray, List.set_cons_zero, List.set_cons_succ]
                      refine wpAnyL_take (i := 14) (v := ?_) rfl (by kernel_rfl) (by kernel_rfl) (by kernel_rfl) (by kernel_rfl) (fun _ _ _ h => h) hS (Or.inl ⟨by rfl, ?_⟩) ?_
                      rotate_left 1
                      · intro w9 hw9
                        go_simp
                        try with_reducible rfl
                      try simp only [List.getElem_toArray, List.getElem_cons_zero, List.getElem_cons_succ, Act.put, List.setIfInBounds_toArray, List.set_cons_zero, List.set_cons_succ]
                      clear hS
                      have zz := HZ0.out.lt
                      have HZ1 := Lib.hid (HZ0.out.below HB18.out zz)
                      have zz1 := HZ1.out.lt
                      have kz := (HZ1).out.cell
                      have fz := (HZ1).out.frozen
                      have lz := (HZ1).out.lt
                      refine wpAnyL_one (i := 16) (by kernel_rfl) rfl (fun K hK => ?_)
                      go_simp
                      refine hK.out _ _ (fun _ => HSS.out _ (Below.setCell (p := ⟨w17.heap.size, 1, none⟩) (Below.setCell (p := ⟨w17.heap.size, 0, none⟩) B18 B17.size _) B17.size _)) (fun _ => ?_)
                      clear hK K
                      try simp only [List.getElem_toArray, List.getElem_cons_zero, List.getElem_cons_succ, Act.put, List.setIfInBounds_toArray, List.set_cons_zero, List.set_cons_succ]
                      clear kz fz lz
                      refine wpAnyL_one (i := 17) (by kernel_rfl) rfl (fun K hK => ?_)
                      go_simp
                      refine hK.out _ _ (fun _ => HSS.out _ (Below.setCell (p := ⟨w17.heap.size, 1, none⟩) (Below.setCell (p := ⟨w17.heap.size, 0, none⟩) B18 B17.size _) B17.size _)) (fun _ => ?_)
                      clear hK K
                      refine wpAnyL_done (by kernel_rfl) ?_ _
                      go_wp2_with fail
                      go_meet
                      exact ⟨w17.heap.size, rfl, rfl, by simpa using zz1, Lib.hid (Below.setCell (p := ⟨w17.heap.size, 1, none⟩) (Below.setCell (p := ⟨w17.heap.size, 0, none⟩) B18 B17.size _) B17.size _), Lib.hid ⟨(World.cell?_setCell_other _ _ _ _ (by simp)).trans (World.cell?_setCell_same' _ _ _ (by rw [HZ1.out.cell 0]; rfl)), World.cell?_setCell_same' _ _ _ (by rw [World.cell?_setCell_other _ _ _ _ (by simp), HZ1.out.cell 1]; rfl)⟩⟩
                  · skip
                    try refine wpAnyL_one (i := 15) (by kernel_rfl) rfl (fun K hK => ?_)
                    go_simp
                    obtain ⟨Z, hZ⟩ : ∃ Z, World.alloc Y (.cells #[.int .i64 0, .int .i64 0] 23) = Z := ⟨_, rfl⟩
                    rw [hZ]
                    have BZ0 : Below (Y).heap.size Y Z := (al1 hZ).1
                    have BZ : Below wr.heap.size wr Z := Below.trans BY (BZ0.mono (Below.size BY))
                    have HZ0 : Hid (Blk Z (Y).heap.size 23 #[.int .i64 0, .int .i64 0]) := by rw [← hZ]; exact Lib.hid (Blk.new _ _ _)
                    clear hZ
                    refine hK.out _ _ (fun _ => HSS.out _ BZ) (fun _ => ?_)
                    clear hK K
                    try simp only [List.getElem_toArray, List.getElem_cons_zero, List.getElem_cons_succ, Act.put, List.setIfInBounds_toArray, List.set_cons_zero, List.set_cons_succ]
                    first | (go_simp; go_at_call 11) | (refine wpAnyL_one (i := 9) (by kernel_rfl) rfl (fun K hK => ?_); go_simp; go_at_call 11)
                    refine (arm_c _ _ _ _).mono ?_
                    rintro e w17 ⟨Ak, rfl, hA, hb17⟩
                    have HA17 := Lib.hid hA
                    have B17 := Below.trans BZ (hb17.mono (Below.size BZ))
                    have HB17 := Lib.hid hb17
                    clear hA hb17
                    refine hK.out _ _ (fun _ => HSS.out _ B17) (fun _ => ?_)
                    clear hK K
                    try simp only [List.getElem_toArray, List.getElem_cons_zero, List.getElem_cons_succ, Act.put, List.setIfInBounds_toArray, List.set_cons_zero, List.set_cons_succ]
                    first | (go_simp; go_at_call 10) | (refine wpAnyL_one (i := 11) (by kernel_rfl) rfl (fun K hK => ?_); go_simp; go_at_call 10)
                    refine (HL1.out x Ak _ hx HA17.out).mono ?_
                    rintro e w18 ⟨rfl, hb18⟩
                    have B18 := Below.trans B17 (hb18.mono (Below.size B17))
                    have HB18 := Lib.hid hb18
                    clear hb18
                    refine hK.out _ _ (fun _ => HSS.out _ B18) (fun _ => ?_)
                    clear hK K
                    try simp only [List.getElem_toArray, List.getElem_cons_zero, List.getElem_cons_succ, Act.put, List.setIfInBounds_toArray, List.set_cons_zero, List.set_cons_succ]
                    have hS := HSS.out w18 B18
                    refine wpAnyL_take (i := 12) (v := ?_) rfl (by kernel_rfl) (by kernel_rfl) (by kernel_rfl) (by kernel_rfl) (fun _ _ _ h => h) hS (Or.inl ⟨by rfl, ?_⟩) ?_
                    rotate_left 1
                    · intro w9 hw9
                      go_simp
                      try with_reducible rfl
                    try simp only [List.getElem_toArray, List.getElem_cons_zero, List.getElem_cons_succ, Act.put, List.setIfInBounds_toArray, List.set_cons_zero, List.set_cons_succ]
                    refine wpAnyL_take (i := 13) (v := ?_) rfl (by kernel_rfl) (by kernel_rfl) (by kernel_rfl) (by kernel_rfl) (fun _ _ _ h => h) hS (Or.inl ⟨by rfl, ?_⟩) ?_
                    rotate_left 1
                    · intro w9 hw9
                      go_simp
                      try with_reducible rfl
                    try simp only [List.getElem_toArray, List.getElem_cons_zero, List.getElem_cons_succ, Act.put, List.setIfInBounds_toArray, List.set_cons_zero, List.set_cons_succ]
                    refine wpAnyL_take (i := 14) (v := ?_) rfl (by kernel_rfl) (by kernel_rfl) (by kernel_rfl) (by kernel_rfl) (fun _ _ _ h => h) hS (Or.inl ⟨by rfl, ?_⟩) ?_
                    rotate_left 1
                    · intro w9 hw9
                      go_simp
                      try with_reducible rfl
                    try simp only [List.getElem_toArray, List.getElem_cons_zero, List.getElem_cons_succ, Act.put, List.setIfInBounds_toArray, List.set_cons_zero, List.set_cons_succ]
                    clear hS
                    have zz := HZ0.out.lt
                    have HZ1 := Lib.hid (HZ0.out.below (HB17.out.trans (HB18.out.mono HB17.out.size)) zz)
                    have zz1 := HZ1.out.lt
                    have kz := (HZ1).out.cell
                    have fz := (HZ1).out.frozen
                    have lz := (HZ1).out.lt
                    refine wpAnyL_one (i := 16) (by kernel_rfl) rfl (fun K hK => ?_)
                    go_simp
                    refine hK.out _ _ (fun _ => HSS.out _ (Below.setCell (p := ⟨Y.heap.size, 1, none⟩) (Below.setCell (p := ⟨Y.heap.size, 0, none⟩) B18 BY.size _) BY.size _)) (fun _ => ?_)
                    clear hK K
                    try simp only [List.getElem_toArray, List.getElem_cons_zero, List.getElem_cons_succ, Act.put, List.setIfInBounds_toArray, List.set_cons_zero, List.set_cons_succ]
                    clear kz fz lz
                    refine wpAnyL_one (i := 17) (by kernel_rfl) rfl (fun K hK => ?_)
                    go_simp
                    refine hK.out _ _ (fun _ => HSS.out _ (Below.setCell (p := ⟨Y.heap.size, 1, none⟩) (Below.setCell (p := ⟨Y.heap.size, 0, none⟩) B18 BY.size _) BY.size _)) (fun _ => ?_)
                    clear hK K
                    refine wpAnyL_done (by kernel_rfl) ?_ _
                    go_wp2_with fail
                    go_meet
                    exact ⟨Y.heap.size, rfl, rfl, by simpa using zz1, Lib.hid (Below.setCell (p := ⟨Y.heap.size, 1, none⟩) (Below.setCell (p := ⟨Y.heap.size, 0, none⟩) B18 BY.size _) BY.size _), Lib.hid ⟨(World.cell?_setCell_other _ _ _ _ (by simp)).trans (World.cell?_setCell_same' _ _ _ (by rw [HZ1.out.cell 0]; rfl)), World.cell?_setCell_same' _ _ _ (by rw [World.cell?_setCell_other _ _ _ _ (by simp), HZ1.out.cell 1]; rfl)⟩⟩
              case rest =>
              obtain ⟨g, rfl, rfl, hg, HBV, HCV⟩ := hcut
              obtain ⟨V', hV'⟩ : ∃ Z, wc = Z := ⟨_, rfl⟩
              rw [hV'] at hg HBV HCV ⊢
              clear hV'
              have HVV := Lib.hid (HVR.out.below HBV.out HVR.out.lt)
              have q20 := HVV.out.cell
              have l20 := HVV.out.lt
              have k0 := HCV.out.1
              have k1 := HCV.out.2
              obtain ⟨y, hy⟩ : ∃ y, P / x = y := ⟨_, rfl⟩
              obtain ⟨y', hy'⟩ : ∃ y, (P + x - 1) / x = y := ⟨_, rfl⟩
              have hxx := HX.out
              rw [hy, hy'] at hxx
              rw [hy] at k0
              rw [hy'] at k1
              obtain ⟨x2, x3, x4, x5, x6⟩ := hxx
              have p0 : decide (y < s0) = false := decide_eq_false (by omega)
              have p1 : decide (s1 < y') = false := decide_eq_false (by omega)
              have p2 : IntKind.i64.wrap (y + 1) = y + 1 := IntWalk.i64_in _ (by omega)
              have p3 : decide (y + 1 < y') = false := decide_eq_false (by omega)
              clear hy hy' e0 e1
              go_wp2_with fail
              go_roundw
              case rel => exact ⟨k + 1, by omega, by go_num, hbr.trans (HBV.out.mono zr)⟩
              case measure => simp [intOf]; omega
            · obtain rfl : n = k := by omega
              have hkB : decide (((n : Nat) : Int) < n) = false := decide_eq_false (by omega)
              go_wp2_with (go_at_call 8; refine (armed_c _).mono ?_; (rintro e w19 ⟨rfl, hb19⟩); (have B19 := Lib.hid (BR.out.trans (hb19.mono BR.out.size))); clear hb19)
              go_ret
              exact ⟨rfl, B19.out⟩

end Go.Proofs.Ytglpgcgidkdkiaa
