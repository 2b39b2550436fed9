/- StretchLengths walked: whatever the pull, the program answers as the specification does. -/
import Derived.Test.YtmmgkmdfecnkdaaQa40
import Derived.Test.YtmmgkmdfecnkdaaQa44
import Derived.Test.YtmmgkmdfecnkdaaQa45
import Derived.Test.YtmmgkmdfecnkdaaQa46
import Derived.Test.YtmmgkmdfecnkdaaQa29
import Derived.Test.YtmmgkmdfecnkdaaQa31
import Derived.Test.YtmmgkmdfecnkdaaQa47
import Derived.Test.YtmmgkmdfecnkdaaQa37
import Derived.Test.YtmmgkmdfecnkdaaQa23
import Derived.Shelf.Abstract
import Derived.Laws.EntriesVeiled
import Derived.Handy
import Derived.Deep.DrawnRows
import Derived.Deep.DeepCutAuto
namespace Go.Proofs.Ytmmgkmdfecnkdaa
open Go.RowKit
open Go.Sort (grow)
set_option linter.unusedVariables false
set_option linter.unusedSimpArgs false

theorem far4_not {p : P4} (h : far4 p = false) : p.rods.length ≤ 40 ∧ p.res.length ≤ 40 ∧ (ck4 p = true → Rdy4 p) := by
  have hr : ck4 p = true → Rdy4 p := fun hc => ready4_iff (by unfold ready4; rw [h, hc]; rfl)
  unfold far4 at h
  simp only [Bool.or_eq_false_iff, decide_eq_false_iff_not] at h
  exact ⟨by omega, by omega, hr⟩
theorem same_self (xs : List Int) (n : Nat) : (n == n && allN n fun k => iAt xs k == iAt xs k) = true := by
  rw [Bool.and_eq_true]
  exact ⟨by simp, allN_iff.2 fun k _ => by simp⟩
theorem same4_self (A B : Option Addr) (n c d : Nat) (xs : List Int) (w : World) (hn : n ≤ 100000) (HX : IntsAt w A n xs) (HY : IntsAt w B n xs) :
    Calls Try.prog 20 #[.slice A n c, .slice B n d] w fun e w' => e = .returned (.bool true) ∧ Below w.heap.size w w' := by
  have := same4_c A B n n c d xs xs w hn hn HX HY
  rw [same_self] at this
  exact this
theorem lgs4_len {p : P4} {wh : Int} (h : ck4 p = true → Rdy4 p) : (lgs4 p wh).length ≤ 40 := by
  by_cases hz : op4 p (when4 wh) = 0
  · have hl : lgs4 p wh = lg4 p (tr4 p) wh := by unfold lgs4; rw [hz]; rfl
    have := lg4_len (p := p) (l := tr4 p) (wh := wh) (h (op4_ol hz).2.1).g8
    rw [hl]; omega
  · have hl : lgs4 p wh = [] := by unfold lgs4; rw [show (op4 p (when4 wh) == 0) = false by simpa using hz]; rfl
    rw [hl]; simp
theorem rds4_len {p : P4} {rod : Int} : (rds4 p rod).length ≤ 40 := by
  by_cases hz : op4 p (wn rod 0 ((p.rods.length : Int) - 1)) = 0
  · have hp := wn_true.1 (op4_ol hz).1
    have ok : Ok4 p.rods.length p.res.length p := ok4_of (op4_ol hz).2.1 rfl rfl
    obtain ⟨q, rfl⟩ := Int.eq_ofNat_of_zero_le hp.1
    have h1 := (op4_ol hz).1
    have hz' := hz
    rw [h1] at hz'
    have hl : rds4 p (q : Int) = rl4 (tr4 p) q := (rds4_eq ok hz' (by omega)).1
    have := rl4_len ok (q := q) (by omega)
    rw [hl]; omega
  · have hl : rds4 p rod = [] := by unfold rds4; rw [show (op4 p (wn rod 0 ((p.rods.length : Int) - 1)) == 0) = false by simpa using hz]; rfl
    rw [hl]; simp
theorem sgs4_len {p : P4} (h : p.res.length ≤ 40) : (sgs4 p).length ≤ 40 := by
  by_cases hz : op4 p true = 0
  · have := sgL4_len (sgA4 p (tr4 p)) p.res.length
    rw [sgs4_eq hz]; omega
  · have hl : sgs4 p = [] := by unfold sgs4; rw [show (op4 p true == 0) = false by simpa using hz]; rfl
    rw [hl]; simp
set_option maxRecDepth 100000 in
set_option maxHeartbeats 6400000 in
theorem strlengths4_c (Ar : Option Addr) (nr cr : Nat) (Ad : Option Addr) (nd cd : Nat) (p : P4) (wh rod prt : Int) (w : World) (HM : MemP Ar nr Ad nd p w) :
    Calls Try.prog 3 #[.agg #[.int .i64 p.ir, .int .i64 p.glo, .int .i64 p.ghi, .slice Ar nr cr, .slice Ad nd cd, .int .i64 p.wr], .agg #[.int .i64 wh, .int .i64 rod, .int .i64 prt]] w fun e w' => e = .returned (.bool true) ∧ Below w.heap.size w w' := by
  have HFR := Lib.hid (fun V (hV : Below w.heap.size w V) => far4_c Ar nr cr Ad nd cd p V (HM.later hV))
  cases hfar : far4 p
  case true =>
    rw [hfar] at HFR
    clear hfar HM
    obtain ⟨ir, glo, ghi, wrg, rods, res⟩ := p
    simp only at HFR ⊢
    go_enter Try.func3, Try.ntmps3
    go_upto_region 1 with (fail)
    go_name_world X hX
    have B0 : Hid (Below w.heap.size w X) := Lib.hid (al2 hX).1
    have HP0 : Hid (Blk X w.heap.size 27 #[Value.int .i64 ir, .int .i64 glo, .int .i64 ghi, .slice Ar nr cr, .slice Ad nd cd, .int .i64 wrg]) := by rw [← hX]; exact Lib.hid ((Blk.new w _ _).alloc _)
    have HX0 : Hid (Blk X (w.heap.size + 1) 29 #[.int .i64 wh, .int .i64 rod, .int .i64 prt]) := by
      rw [← hX]
      have := Blk.new (w.alloc (.cells #[Value.int .i64 ir, .int .i64 glo, .int .i64 ghi, .slice Ar nr cr, .slice Ad nd cd, .int .i64 wrg] 27)) 29 #[.int .i64 wh, .int .i64 rod, .int .i64 prt]
      rw [World.size_alloc] at this
      exact Lib.hid this
    have hpc0 := HP0.out.cell
    have hpl0 := HP0.out.lt
    have hxc0 := HX0.out.cell
    have hxl0 := HX0.out.lt
    clear hX
    go_wp2_with (first | (go_at_call 5; refine (HFR.out X B0.out).mono ?_; (rintro e w1 ⟨rfl, hb1⟩); (have B1 := Lib.hid (B0.out.trans (hb1.mono B0.out.size))); clear hb1) | (go_at_call 6; refine (works4_c _).mono ?_; (rintro e w9 ⟨rfl, hb9⟩); (have B9 := Lib.hid (B1.out.trans (hb9.mono B1.out.size))); clear hb9))
    go_ret
    exact ⟨rfl, B9.out⟩
  case false =>
    rw [hfar] at HFR
    have hr := HM.hr.1
    have hd := HM.hd.1
    obtain ⟨hnr, hnd, hrdy⟩ := far4_not hfar
    rw [hr] at hnr
    rw [hd] at hnd
    have hlen : ck4 p = true → (tr4 p).length ≤ 90000 := fun h => (hrdy h).len
    have hg8 : ck4 p = true → p.ghi - p.glo ≤ 8 := fun h => (hrdy h).g8
    have h12 : ck4 p = true → (ws4 p).length ≤ 12 := fun h => (hrdy h).ways
    have HCP := Lib.hid (fun V (hV : Below w.heap.size w V) => Copy4_c Ar nr cr Ad nd cd p V (by omega) (by omega) (HM.later hV))
    have HMW := Lib.hid HM
    have HSM := Lib.hid (fun A1 c1 A2 c2 V (HA : MemP A1 nr A2 nd p V) (HB : MemP Ar nr Ad nd p V) => samep4_c A1 nr c1 A2 nd c2 Ar cr Ad cd p V hnr hnd HA HB)
    have HPM := Lib.hid (fun base A1 c1 A2 c2 V (h : PuOwn base A1 nr c1 A2 nd c2 p.rods p.res V) => h.mem hr hd)
    have HCO := Lib.hid (fun A1 c1 A2 c2 V (H : MemP A1 nr A2 nd p V) => check4_c A1 nr c1 A2 nd c2 p V hnr hnd H)
    have HCR := Lib.hid (fun V (H : MemP Ar nr Ad nd p V) => refCheck4_c Ar nr cr Ad nd cd p V hnr hnd H)
    have HFO := Lib.hid (fun A1 c1 A2 c2 V (H : MemP A1 nr A2 nd p V) => fewest4_c A1 nr c1 A2 nd c2 p V hnr hnd H)
    have HFP := Lib.hid (fun V (H : MemP Ar nr Ad nd p V) => refFewest4_c Ar nr cr Ad nd cd p V hnr hnd H hg8 h12)
    have HYO := Lib.hid (fun A1 c1 A2 c2 V (H : MemP A1 nr A2 nd p V) => many4_c A1 nr c1 A2 nd c2 p V hnr hnd H hlen)
    have HYP := Lib.hid (fun V (H : MemP Ar nr Ad nd p V) => refMany4_c Ar nr cr Ad nd cd p V hnr hnd H hg8 h12)
    have HLO := Lib.hid (fun A1 c1 A2 c2 V (H : MemP A1 nr A2 nd p V) => lengths4_c A1 nr c1 A2 nd c2 p wh V hnr hnd H hlen)
    have HLP := Lib.hid (fun V (H : MemP Ar nr Ad nd p V) => refLengths4_c Ar nr cr Ad nd cd p V wh hnr hnd H hg8 h12)
    have HRO := Lib.hid (fun A1 c1 A2 c2 V (H : MemP A1 nr A2 nd p V) => rods4_c A1 nr c1 A2 nd c2 p rod V hnr hnd H hlen)
    have HRP := Lib.hid (fun V (H : MemP Ar nr Ad nd p V) => refRods04_c Ar nr cr Ad nd cd p V rod hnr hnd H hg8 h12)
    have HTO := Lib.hid (fun A1 c1 A2 c2 V (H : MemP A1 nr A2 nd p V) => strange4_c A1 nr c1 A2 nd c2 p V hnr hnd H hlen)
    have HTP := Lib.hid (fun V (H : MemP Ar nr Ad nd p V) => refStrange4_c Ar nr cr Ad nd cd p V hnr hnd H hg8 h12)
    rw [many_eq (fun h => by have := (ok4_of h hr hd).nr4; omega)] at HYO
    have hl1 := lgs4_len (p := p) (wh := wh) hrdy
    have hl2 := rds4_len (p := p) (rod := rod)
    have hl3 := sgs4_len (p := p) (by omega)
    obtain ⟨fe, hfe⟩ : ∃ x, few4 p = x := ⟨_, rfl⟩
    rw [hfe] at HFO HFP
    obtain ⟨ee, hee⟩ : ∃ x, er4 (ck4 p) = x := ⟨_, rfl⟩
    rw [hee] at HCO HCR HFO HFP
    obtain ⟨mm, hmm⟩ : ∃ x, (knL4 p true).length = x := ⟨_, rfl⟩
    rw [hmm] at HYO HYP
    obtain ⟨zz, hzz⟩ : ∃ x, op4 p true = x := ⟨_, rfl⟩
    rw [hzz] at HYO HYP HTO HTP
    obtain ⟨L1, hL1⟩ : ∃ x, lgs4 p wh = x := ⟨_, rfl⟩
    rw [hL1] at HLO HLP hl1
    obtain ⟨z1, hz1⟩ : ∃ x, op4 p (when4 wh) = x := ⟨_, rfl⟩
    rw [hz1] at HLO HLP
    obtain ⟨L2, hL2⟩ : ∃ x, rds4 p rod = x := ⟨_, rfl⟩
    rw [hL2] at HRO HRP hl2
    obtain ⟨z2, hz2⟩ : ∃ x, op4 p (wn rod 0 ((p.rods.length : Int) - 1)) = x := ⟨_, rfl⟩
    rw [hz2] at HRO HRP
    obtain ⟨L3, hL3⟩ : ∃ x, sgs4 p = x := ⟨_, rfl⟩
    rw [hL3] at HTO HTP hl3
    obtain ⟨n1, hn1⟩ : ∃ x, L1.length = x := ⟨_, rfl⟩
    rw [hn1] at HLO HLP hl1
    obtain ⟨n2, hn2⟩ : ∃ x, L2.length = x := ⟨_, rfl⟩
    rw [hn2] at HRO HRP hl2
    obtain ⟨n3, hn3⟩ : ∃ x, L3.length = x := ⟨_, rfl⟩
    rw [hn3] at HTO HTP hl3
    have ne_fe : (fe != fe) = false := by simp
    have eq_fe : (fe == fe) = true := by simp
    have ne_ee : (ee != ee) = false := by simp
    have eq_ee : (ee == ee) = true := by simp
    have ne_zz : (zz != zz) = false := by simp
    have eq_zz : (zz == zz) = true := by simp
    have ne_z1 : (z1 != z1) = false := by simp
    have eq_z1 : (z1 == z1) = true := by simp
    have ne_z2 : (z2 != z2) = false := by simp
    have eq_z2 : (z2 == z2) = true := by simp
    have ne_mm : (((mm : Nat) : Int) != mm) = false := by simp
    clear HM hr hd hfar hnr hnd hrdy hlen hg8 h12 hfe hee hmm hzz hL1 hz1 hL2 hz2 hL3 hn1 hn2 hn3
    obtain ⟨ir, glo, ghi, wrg, rods, res⟩ := p
    simp only at HFR HCP HSM HCO HCR HFO HFP HYO HYP HLO HLP HRO HRP HTO HTP ⊢
    go_enter Try.func3, Try.ntmps3
    go_upto_region 1 with (fail)
    go_name_world X hX
    have B0 : Hid (Below w.heap.size w X) := Lib.hid (al2 hX).1
    have HP0 : Hid (Blk X w.heap.size 27 #[Value.int .i64 ir, .int .i64 glo, .int .i64 ghi, .slice Ar nr cr, .slice Ad nd cd, .int .i64 wrg]) := by rw [← hX]; exact Lib.hid ((Blk.new w _ _).alloc _)
    have HX0 : Hid (Blk X (w.heap.size + 1) 29 #[.int .i64 wh, .int .i64 rod, .int .i64 prt]) := by
      rw [← hX]
      have := Blk.new (w.alloc (.cells #[Value.int .i64 ir, .int .i64 glo, .int .i64 ghi, .slice Ar nr cr, .slice Ad nd cd, .int .i64 wrg] 27)) 29 #[.int .i64 wh, .int .i64 rod, .int .i64 prt]
      rw [World.size_alloc] at this
      exact Lib.hid this
    have hpc0 := HP0.out.cell
    have hpl0 := HP0.out.lt
    have hxc0 := HX0.out.cell
    have hxl0 := HX0.out.lt
    clear hX
    go_upto_region 3 with (go_at_call 5; (with_reducible refine (HFR.out X B0.out).mono ?_); (rintro e v1 ⟨rfl, hb⟩); (have HP1 := Lib.hid (HP0.out.below hb HP0.out.lt)); (have hpc1 := HP1.out.cell); (have hpl1 := HP1.out.lt); (have HX1 := Lib.hid (HX0.out.below hb HX0.out.lt)); (have hxc1 := HX1.out.cell); (have hxl1 := HX1.out.lt); (have B1 := Lib.hid (B0.out.trans (hb.mono B0.out.size))); clear hb hpc0 hpl0 hxc0 hxl0)
    go_upto_region 4 with (go_at_call 7; refine (HCP.out v1 B1.out).mono ?_; (rintro e v2 ⟨A1, c1, A2, c2, rfl, hown, hb⟩); (have HOW := Lib.hid hown); (have HP2 := Lib.hid (HP1.out.below hb HP1.out.lt)); (have hpc2 := HP2.out.cell); (have hpl2 := HP2.out.lt); (have HX2 := Lib.hid (HX1.out.below hb HX1.out.lt)); (have hxc2 := HX2.out.cell); (have hxl2 := HX2.out.lt); (have B2 := Lib.hid (B1.out.trans (hb.mono B1.out.size))); clear hb hpc1 hpl1 hxc1 hxl1; clear hown)
    go_name_world Y hY
    have BY := (al1 hY).1
    have HOM : Hid (∀ V, Below Y.heap.size Y V → MemP A1 nr A2 nd ⟨ir, glo, ghi, wrg, rods, res⟩ V) := Lib.hid (fun V hV => (HPM.out _ A1 c1 A2 c2 _ (HOW.out.later BY)).later hV)
    have HPV : Hid (∀ V, Below Y.heap.size Y V → MemP Ar nr Ad nd ⟨ir, glo, ghi, wrg, rods, res⟩ V) := Lib.hid (fun V hV => HMW.out.later ((B2.out.trans (BY.mono B2.out.size)).trans (hV.mono (Nat.le_trans B2.out.size BY.size))))
    have HO3 : Hid (Blk Y v2.heap.size 27 #[Value.int .i64 ir, .int .i64 glo, .int .i64 ghi, .slice A1 nr c1, .slice A2 nd c2, .int .i64 wrg]) := by rw [← hY]; exact Lib.hid (Blk.new v2 _ _)
    have HP3 := Lib.hid (HP2.out.below BY HP2.out.lt)
    have HX3 := Lib.hid (HX2.out.below BY HX2.out.lt)
    have BWY := Lib.hid (B2.out.trans (BY.mono B2.out.size))
    have B3 : Hid (Below Y.heap.size Y Y) := Lib.hid (Below.refl _ _)
    obtain ⟨v3, hv3⟩ : ∃ V, Y = V := ⟨_, rfl⟩
    have hoc3 := HO3.out.cell
    have hol3 := HO3.out.lt
    have hpc3 := HP3.out.cell
    have hpl3 := HP3.out.lt
    have hxc3 := HX3.out.cell
    have hxl3 := HX3.out.lt
    clear hY BY hpc2 hpl2 hxc2 hxl2 hv3 v3
    have hcq := fun p : Regrown => (bcell (below_regrown Y p.d p.os)).1
    refine wp_region_quiet_below (by kernel_rfl) (by kernel_rfl) ?_
    repeat (go_big_quiet_step ((first | (go_at_call 8; exact Calls.regrown_of (HCO.out A1 c1 A2 c2 _ (HOM.out _ (below_regrown _ _ _)))) | (go_at_call 9; exact Calls.regrown_of (HCR.out _ (HPV.out _ (below_regrown _ _ _)))))))
    refine wpQuiet_nil ?_
    intro wq hq
    obtain ⟨pq, hq⟩ := hq
    have hbq : Below Y.heap.size Y wq := by rw [hq]; exact below_regrown _ _ _
    clear hq hcq pq
    obtain ⟨hcq, hfq⟩ := bcell hbq
    have zq := hbq.size
    have hb := hbq
    clear hcq hfq
    have HP4 := Lib.hid (HP3.out.below hb HP3.out.lt)
    have hpc4 := HP4.out.cell
    have hpl4 := HP4.out.lt
    clear hpc3 hpl3
    have HX4 := Lib.hid (HX3.out.below hb HX3.out.lt)
    have hxc4 := HX4.out.cell
    have hxl4 := HX4.out.lt
    clear hxc3 hxl3
    have HO4 := Lib.hid (HO3.out.below hb HO3.out.lt)
    have hoc4 := HO4.out.cell
    have hol4 := HO4.out.lt
    clear hoc3 hol3
    have B4 := Lib.hid hb
    clear hb hbq
    go_upto_region 7 with (go_at_call 10; (with_reducible refine (HFO.out A1 c1 A2 c2 _ (HOM.out _ B4.out)).mono ?_); (rintro e v5 ⟨rfl, hb⟩); (have HP5 := Lib.hid (HP4.out.below hb HP4.out.lt)); (have hpc5 := HP5.out.cell); (have hpl5 := HP5.out.lt); (have HX5 := Lib.hid (HX4.out.below hb HX4.out.lt)); (have hxc5 := HX5.out.cell); (have hxl5 := HX5.out.lt); (have HO5 := Lib.hid (HO4.out.below hb HO4.out.lt)); (have hoc5 := HO5.out.cell); (have hol5 := HO5.out.lt); (have B5 := Lib.hid (B4.out.trans (hb.mono B4.out.size))); clear hb hpc4 hpl4 hxc4 hxl4 hoc4 hol4)
    go_upto_region 8 with (go_at_call 11; (with_reducible refine (HFP.out _ (HPV.out _ B5.out)).mono ?_); (rintro e v6 ⟨rfl, hb⟩); (have HP6 := Lib.hid (HP5.out.below hb HP5.out.lt)); (have hpc6 := HP6.out.cell); (have hpl6 := HP6.out.lt); (have HX6 := Lib.hid (HX5.out.below hb HX5.out.lt)); (have hxc6 := HX6.out.cell); (have hxl6 := HX6.out.lt); (have HO6 := Lib.hid (HO5.out.below hb HO5.out.lt)); (have hoc6 := HO6.out.cell); (have hol6 := HO6.out.lt); (have B6 := Lib.hid (B5.out.trans (hb.mono B5.out.size))); clear hb hpc5 hpl5 hxc5 hxl5 hoc5 hol5)
    go_upto_region 9 with (go_at_call 12; (with_reducible refine (HYO.out A1 c1 A2 c2 _ (HOM.out _ B6.out)).mono ?_); (rintro e v7 ⟨rfl, hb⟩); (have HP7 := Lib.hid (HP6.out.below hb HP6.out.lt)); (have hpc7 := HP7.out.cell); (have hpl7 := HP7.out.lt); (have HX7 := Lib.hid (HX6.out.below hb HX6.out.lt)); (have hxc7 := HX7.out.cell); (have hxl7 := HX7.out.lt); (have HO7 := Lib.hid (HO6.out.below hb HO6.out.lt)); (have hoc7 := HO7.out.cell); (have hol7 := HO7.out.lt); (have B7 := Lib.hid (B6.out.trans (hb.mono B6.out.size))); clear hb hpc6 hpl6 hxc6 hxl6 hoc6 hol6)
    go_upto_region 10 with (go_at_call 13; (with_reducible refine (HYP.out _ (HPV.out _ B7.out)).mono ?_); (rintro e v8 ⟨rfl, hb⟩); (have HP8 := Lib.hid (HP7.out.below hb HP7.out.lt)); (have hpc8 := HP8.out.cell); (have hpl8 := HP8.out.lt); (have HX8 := Lib.hid (HX7.out.below hb HX7.out.lt)); (have hxc8 := HX8.out.cell); (have hxl8 := HX8.out.lt); (have HO8 := Lib.hid (HO7.out.below hb HO7.out.lt)); (have hoc8 := HO8.out.cell); (have hol8 := HO8.out.lt); (have B8 := Lib.hid (B7.out.trans (hb.mono B7.out.size))); clear hb hpc7 hpl7 hxc7 hxl7 hoc7 hol7)
    go_upto_region 12 with (fail)
    go_upto_region 13 with (go_at_call 14; refine (HLO.out A1 c1 A2 c2 _ (HOM.out _ B8.out)).mono ?_; (rintro e v9 ⟨Dk, dk, rfl, hI, hb⟩); (have Ik_9 := Lib.hid hI); (have HP9 := Lib.hid (HP8.out.below hb HP8.out.lt)); (have hpc9 := HP9.out.cell); (have hpl9 := HP9.out.lt); (have HX9 := Lib.hid (HX8.out.below hb HX8.out.lt)); (have hxc9 := HX9.out.cell); (have hxl9 := HX9.out.lt); (have HO9 := Lib.hid (HO8.out.below hb HO8.out.lt)); (have hoc9 := HO9.out.cell); (have hol9 := HO9.out.lt); (have B9 := Lib.hid (B8.out.trans (hb.mono B8.out.size))); clear hb hpc8 hpl8 hxc8 hxl8 hoc8 hol8; clear hI)
    go_upto_region 14 with (go_at_call 15; refine (HLP.out _ (HPV.out _ B9.out)).mono ?_; (rintro e v10 ⟨Dl, dl, rfl, hI, hb⟩); (have Il_10 := Lib.hid hI); (have HP10 := Lib.hid (HP9.out.below hb HP9.out.lt)); (have hpc10 := HP10.out.cell); (have hpl10 := HP10.out.lt); (have HX10 := Lib.hid (HX9.out.below hb HX9.out.lt)); (have hxc10 := HX10.out.cell); (have hxl10 := HX10.out.lt); (have HO10 := Lib.hid (HO9.out.below hb HO9.out.lt)); (have hoc10 := HO10.out.cell); (have hol10 := HO10.out.lt); (have Ik_10 := Lib.hid (Ik_9.out.later hb)); (have B10 := Lib.hid (B9.out.trans (hb.mono B9.out.size))); clear hb hpc9 hpl9 hxc9 hxl9 hoc9 hol9; clear hI)
    go_upto_region 15 with (go_at_call 16; refine (HRO.out A1 c1 A2 c2 _ (HOM.out _ B10.out)).mono ?_; (rintro e v11 ⟨Dr, dr, rfl, hI, hb⟩); (have Ir_11 := Lib.hid hI); (have HP11 := Lib.hid (HP10.out.below hb HP10.out.lt)); (have hpc11 := HP11.out.cell); (have hpl11 := HP11.out.lt); (have HX11 := Lib.hid (HX10.out.below hb HX10.out.lt)); (have hxc11 := HX11.out.cell); (have hxl11 := HX11.out.lt); (have HO11 := Lib.hid (HO10.out.below hb HO10.out.lt)); (have hoc11 := HO11.out.cell); (have hol11 := HO11.out.lt); (have Ik_11 := Lib.hid (Ik_10.out.later hb)); (have Il_11 := Lib.hid (Il_10.out.later hb)); (have B11 := Lib.hid (B10.out.trans (hb.mono B10.out.size))); clear hb hpc10 hpl10 hxc10 hxl10 hoc10 hol10; clear hI)
    go_upto_region 16 with (go_at_call 17; refine (HRP.out _ (HPV.out _ B11.out)).mono ?_; (rintro e v12 ⟨Ds, ds, rfl, hI, hb⟩); (have Is_12 := Lib.hid hI); (have HP12 := Lib.hid (HP11.out.below hb HP11.out.lt)); (have hpc12 := HP12.out.cell); (have hpl12 := HP12.out.lt); (have HX12 := Lib.hid (HX11.out.below hb HX11.out.lt)); (have hxc12 := HX12.out.cell); (have hxl12 := HX12.out.lt); (have HO12 := Lib.hid (HO11.out.below hb HO11.out.lt)); (have hoc12 := HO12.out.cell); (have hol12 := HO12.out.lt); (have Ik_12 := Lib.hid (Ik_11.out.later hb)); (have Il_12 := Lib.hid (Il_11.out.later hb)); (have Ir_12 := Lib.hid (Ir_11.out.later hb)); (have B12 := Lib.hid (B11.out.trans (hb.mono B11.out.size))); clear hb hpc11 hpl11 hxc11 hxl11 hoc11 hol11; clear hI)
    go_upto_region 17 with (go_at_call 18; refine (HTO.out A1 c1 A2 c2 _ (HOM.out _ B12.out)).mono ?_; (rintro e v13 ⟨Dt, dt, rfl, hI, hb⟩); (have It_13 := Lib.hid hI); (have HP13 := Lib.hid (HP12.out.below hb HP12.out.lt)); (have hpc13 := HP13.out.cell); (have hpl13 := HP13.out.lt); (have HX13 := Lib.hid (HX12.out.below hb HX12.out.lt)); (have hxc13 := HX13.out.cell); (have hxl13 := HX13.out.lt); (have HO13 := Lib.hid (HO12.out.below hb HO12.out.lt)); (have hoc13 := HO13.out.cell); (have hol13 := HO13.out.lt); (have Ik_13 := Lib.hid (Ik_12.out.later hb)); (have Il_13 := Lib.hid (Il_12.out.later hb)); (have Ir_13 := Lib.hid (Ir_12.out.later hb)); (have Is_13 := Lib.hid (Is_12.out.later hb)); (have B13 := Lib.hid (B12.out.trans (hb.mono B12.out.size))); clear hb hpc12 hpl12 hxc12 hxl12 hoc12 hol12; clear hI)
    go_upto_region 18 with (go_at_call 19; refine (HTP.out _ (HPV.out _ B13.out)).mono ?_; (rintro e v14 ⟨Du, du, rfl, hI, hb⟩); (have Iu_14 := Lib.hid hI); (have HP14 := Lib.hid (HP13.out.below hb HP13.out.lt)); (have hpc14 := HP14.out.cell); (have hpl14 := HP14.out.lt); (have HX14 := Lib.hid (HX13.out.below hb HX13.out.lt)); (have hxc14 := HX14.out.cell); (have hxl14 := HX14.out.lt); (have HO14 := Lib.hid (HO13.out.below hb HO13.out.lt)); (have hoc14 := HO14.out.cell); (have hol14 := HO14.out.lt); (have Ik_14 := Lib.hid (Ik_13.out.later hb)); (have Il_14 := Lib.hid (Il_13.out.later hb)); (have Ir_14 := Lib.hid (Ir_13.out.later hb)); (have Is_14 := Lib.hid (Is_13.out.later hb)); (have It_14 := Lib.hid (It_13.out.later hb)); (have B14 := Lib.hid (B13.out.trans (hb.mono B13.out.size))); clear hb hpc13 hpl13 hxc13 hxl13 hoc13 hol13; clear hI)
    go_wp2_with (first | (go_at_call 20; (with_reducible refine (same4_self _ _ _ _ _ L1 v14 (by omega) Ik_14.out Il_14.out).mono ?_); (rintro e v15 ⟨rfl, hb⟩); (have HP15 := Lib.hid (HP14.out.below hb HP14.out.lt)); (have hpc15 := HP15.out.cell); (have hpl15 := HP15.out.lt); (have HX15 := Lib.hid (HX14.out.below hb HX14.out.lt)); (have hxc15 := HX15.out.cell); (have hxl15 := HX15.out.lt); (have HO15 := Lib.hid (HO14.out.below hb HO14.out.lt)); (have hoc15 := HO15.out.cell); (have hol15 := HO15.out.lt); (have Ik_15 := Lib.hid (Ik_14.out.later hb)); (have Il_15 := Lib.hid (Il_14.out.later hb)); (have Ir_15 := Lib.hid (Ir_14.out.later hb)); (have Is_15 := Lib.hid (Is_14.out.later hb)); (have It_15 := Lib.hid (It_14.out.later hb)); (have Iu_15 := Lib.hid (Iu_14.out.later hb)); (have B15 := Lib.hid (B14.out.trans (hb.mono B14.out.size))); clear hb hpc14 hpl14 hxc14 hxl14 hoc14 hol14) | (go_at_call 20; (with_reducible refine (same4_self _ _ _ _ _ L2 v15 (by omega) Ir_15.out Is_15.out).mono ?_); (rintro e v16 ⟨rfl, hb⟩); (have HP16 := Lib.hid (HP15.out.below hb HP15.out.lt)); (have hpc16 := HP16.out.cell); (have hpl16 := HP16.out.lt); (have HX16 := Lib.hid (HX15.out.below hb HX15.out.lt)); (have hxc16 := HX16.out.cell); (have hxl16 := HX16.out.lt); (have HO16 := Lib.hid (HO15.out.below hb HO15.out.lt)); (have hoc16 := HO16.out.cell); (have hol16 := HO16.out.lt); (have Ik_16 := Lib.hid (Ik_15.out.later hb)); (have Il_16 := Lib.hid (Il_15.out.later hb)); (have Ir_16 := Lib.hid (Ir_15.out.later hb)); (have Is_16 := Lib.hid (Is_15.out.later hb)); (have It_16 := Lib.hid (It_15.out.later hb)); (have Iu_16 := Lib.hid (Iu_15.out.later hb)); (have B16 := Lib.hid (B15.out.trans (hb.mono B15.out.size))); clear hb hpc15 hpl15 hxc15 hxl15 hoc15 hol15) | (go_at_call 20; (with_reducible refine (same4_self _ _ _ _ _ L3 v16 (by omega) It_16.out Iu_16.out).mono ?_); (rintro e v17 ⟨rfl, hb⟩); (have HP17 := Lib.hid (HP16.out.below hb HP16.out.lt)); (have hpc17 := HP17.out.cell); (have hpl17 := HP17.out.lt); (have HX17 := Lib.hid (HX16.out.below hb HX16.out.lt)); (have hxc17 := HX17.out.cell); (have hxl17 := HX17.out.lt); (have HO17 := Lib.hid (HO16.out.below hb HO16.out.lt)); (have hoc17 := HO17.out.cell); (have hol17 := HO17.out.lt); (have Ik_17 := Lib.hid (Ik_16.out.later hb)); (have Il_17 := Lib.hid (Il_16.out.later hb)); (have Ir_17 := Lib.hid (Ir_16.out.later hb)); (have Is_17 := Lib.hid (Is_16.out.later hb)); (have It_17 := Lib.hid (It_16.out.later hb)); (have Iu_17 := Lib.hid (Iu_16.out.later hb)); (have B17 := Lib.hid (B16.out.trans (hb.mono B16.out.size))); clear hb hpc16 hpl16 hxc16 hxl16 hoc16 hol16) | (go_at_call 21; (with_reducible refine (HSM.out A1 c1 A2 c2 _ (HOM.out _ B17.out) (HPV.out _ B17.out)).mono ?_); (rintro e v18 ⟨rfl, hb⟩); (have HP18 := Lib.hid (HP17.out.below hb HP17.out.lt)); (have hpc18 := HP18.out.cell); (have hpl18 := HP18.out.lt); (have HX18 := Lib.hid (HX17.out.below hb HX17.out.lt)); (have hxc18 := HX18.out.cell); (have hxl18 := HX18.out.lt); (have HO18 := Lib.hid (HO17.out.below hb HO17.out.lt)); (have hoc18 := HO18.out.cell); (have hol18 := HO18.out.lt); (have Ik_18 := Lib.hid (Ik_17.out.later hb)); (have Il_18 := Lib.hid (Il_17.out.later hb)); (have Ir_18 := Lib.hid (Ir_17.out.later hb)); (have Is_18 := Lib.hid (Is_17.out.later hb)); (have It_18 := Lib.hid (It_17.out.later hb)); (have Iu_18 := Lib.hid (Iu_17.out.later hb)); (have B18 := Lib.hid (B17.out.trans (hb.mono B17.out.size))); clear hb hpc17 hpl17 hxc17 hxl17 hoc17 hol17) | (go_at_call 6; refine (works4_c _).mono ?_; (rintro e w9 ⟨rfl, hb9⟩); (have B99 := Lib.hid (BWY.out.trans ((B18.out.trans (hb9.mono B18.out.size)).mono BWY.out.size))); clear hb9))
    go_ret
    exact ⟨rfl, B99.out⟩

end Go.Proofs.Ytmmgkmdfecnkdaa
