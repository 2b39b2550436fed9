/- StretchHolds walked: whatever the pull and the part, the program answers as the specification does. -/
import Derived.Test.YtmmgkmdfecnkdaaQa48
import Derived.Shelf.Abstract
import Derived.Laws.EntriesVeiled
import Derived.Handy
import Derived.Deep.DrawnRows
import Derived.Deep.DeepCutAuto
namespace Go.Proofs.Ytmmgkmdfecnkdaa
open Go.RowKit
open Go.Sort (grow)
set_option linter.unusedVariables false
set_option linter.unusedSimpArgs false

set_option maxRecDepth 100000 in
set_option maxHeartbeats 6400000 in
theorem strholds4_c (Ar : Option Addr) (nr cr : Nat) (Ad : Option Addr) (nd cd : Nat) (p : P4) (pt : Int) (w : World) (HM : MemP Ar nr Ad nd p w) :
    Calls Try.prog 4 #[.agg #[.int .i64 p.ir, .int .i64 p.glo, .int .i64 p.ghi, .slice Ar nr cr, .slice Ad nd cd, .int .i64 p.wr], .int .i64 pt] w fun e w' => e = .returned (.bool true) ∧ Below w.heap.size w w' := by
  have HFR := Lib.hid (fun V (hV : Below w.heap.size w V) => far4_c Ar nr cr Ad nd cd p V (HM.later hV))
  cases hfar : far4 p
  case true =>
    rw [hfar] at HFR
    clear hfar HM
    obtain ⟨ir, glo, ghi, wrg, rods, res⟩ := p
    simp only at HFR ⊢
    go_enter Try.func4, Try.ntmps4
    go_upto_region 1 with (fail)
    go_name_world X hX
    have B0 : Hid (Below w.heap.size w X) := Lib.hid (al1 hX).1
    have HP0 : Hid (Blk X w.heap.size 27 #[Value.int .i64 ir, .int .i64 glo, .int .i64 ghi, .slice Ar nr cr, .slice Ad nd cd, .int .i64 wrg]) := by rw [← hX]; exact Lib.hid (Blk.new w _ _)
    have hpc0 := HP0.out.cell
    have hpl0 := HP0.out.lt
    clear hX
    go_wp2_with (first | (go_at_call 5; refine (HFR.out X B0.out).mono ?_; (rintro e w1 ⟨rfl, hb1⟩); (have B1 := Lib.hid (B0.out.trans (hb1.mono B0.out.size))); clear hb1) | (go_at_call 6; refine (works4_c _).mono ?_; (rintro e w9 ⟨rfl, hb9⟩); (have B9 := Lib.hid (B1.out.trans (hb9.mono B1.out.size))); clear hb9))
    go_ret
    exact ⟨rfl, B9.out⟩
  case false =>
    rw [hfar] at HFR
    have hr := HM.hr.1
    have hd := HM.hd.1
    obtain ⟨hnr, hnd, hrdy⟩ := far4_not hfar
    rw [hr] at hnr
    rw [hd] at hnd
    have hlen : ck4 p = true → (tr4 p).length ≤ 90000 := fun h => (hrdy h).len
    have hg8 : ck4 p = true → p.ghi - p.glo ≤ 8 := fun h => (hrdy h).g8
    have h12 : ck4 p = true → (ws4 p).length ≤ 12 := fun h => (hrdy h).ways
    have HCP := Lib.hid (fun V (hV : Below w.heap.size w V) => Copy4_c Ar nr cr Ad nd cd p V (by omega) (by omega) (HM.later hV))
    have HMW := Lib.hid HM
    have HSM := Lib.hid (fun A1 c1 A2 c2 V (HA : MemP A1 nr A2 nd p V) (HB : MemP Ar nr Ad nd p V) => samep4_c A1 nr c1 A2 nd c2 Ar cr Ad cd p V hnr hnd HA HB)
    have HPM := Lib.hid (fun base A1 c1 A2 c2 V (h : PuOwn base A1 nr c1 A2 nd c2 p.rods p.res V) => h.mem hr hd)
    have HTO := Lib.hid (fun A1 c1 A2 c2 V (H : MemP A1 nr A2 nd p V) => stretch4_c A1 nr c1 A2 nd c2 p V hnr hnd H hlen)
    have HTP := Lib.hid (fun V (H : MemP Ar nr Ad nd p V) => refStretch4_c Ar nr cr Ad nd cd p V hnr hnd H hg8 h12)
    have HHO := Lib.hid (fun A1 c1 A2 c2 V (H : MemP A1 nr A2 nd p V) => Holds4_c A1 nr c1 A2 nd c2 p pt V hnr hnd H hlen)
    have HHP := Lib.hid (fun V (H : MemP Ar nr Ad nd p V) => refHolds04_c Ar nr cr Ad nd cd p V pt hnr hnd H hg8 h12)
    have HBO := Lib.hid (fun A1 c1 A2 c2 V (H : MemP A1 nr A2 nd p V) => best4_c A1 nr c1 A2 nd c2 p V hnr hnd H hlen)
    have HBP := Lib.hid (fun V (H : MemP Ar nr Ad nd p V) => refBest4_c Ar nr cr Ad nd cd p V hnr hnd H hg8 h12)
    have HNO := Lib.hid (fun A1 c1 A2 c2 V (H : MemP A1 nr A2 nd p V) => next4_c A1 nr c1 A2 nd c2 p V hnr hnd H hlen)
    have HNP := Lib.hid (fun V (H : MemP Ar nr Ad nd p V) => refNext4_c Ar nr cr Ad nd cd p V hnr hnd H hg8 h12)
    obtain ⟨s0, hs0⟩ : ∃ x, (st4 p).lo = x := ⟨_, rfl⟩
    rw [hs0] at HTO HTP
    obtain ⟨s1, hs1⟩ : ∃ x, (st4 p).hi = x := ⟨_, rfl⟩
    rw [hs1] at HTO HTP
    obtain ⟨zz, hzz⟩ : ∃ x, op4 p true = x := ⟨_, rfl⟩
    rw [hzz] at HTO HTP
    obtain ⟨hv, hhv⟩ : ∃ x, hds4 p pt = x := ⟨_, rfl⟩
    rw [hhv] at HHO HHP
    obtain ⟨z1, hz1⟩ : ∃ x, op4 p (wn pt 0 1000) = x := ⟨_, rfl⟩
    rw [hz1] at HHO HHP
    obtain ⟨bv, hbv⟩ : ∃ x, bev4 p = x := ⟨_, rfl⟩
    rw [hbv] at HBO HBP
    obtain ⟨be, hbe⟩ : ∃ x, bee4 p = x := ⟨_, rfl⟩
    rw [hbe] at HBO HBP
    obtain ⟨nv, hnv⟩ : ∃ x, nxv4 p = x := ⟨_, rfl⟩
    rw [hnv] at HNO HNP
    obtain ⟨ne, hne⟩ : ∃ x, nxe4 p = x := ⟨_, rfl⟩
    rw [hne] at HNO HNP
    have eq_s0 : (s0 == s0) = true := by simp
    have eq_s1 : (s1 == s1) = true := by simp
    have eq_zz : (zz == zz) = true := by simp
    have eq_hv : (hv == hv) = true := by simp
    have eq_z1 : (z1 == z1) = true := by simp
    have eq_bv : (bv == bv) = true := by simp
    have eq_be : (be == be) = true := by simp
    have eq_nv : (nv == nv) = true := by simp
    have eq_ne : (ne == ne) = true := by simp
    clear HM hr hd hfar hnr hnd hrdy hlen hg8 h12 hs0 hs1 hzz hhv hz1 hbv hbe hnv hne
    obtain ⟨ir, glo, ghi, wrg, rods, res⟩ := p
    simp only at HFR HCP HSM HTO HTP HHO HHP HBO HBP HNO HNP ⊢
    go_enter Try.func4, Try.ntmps4
    go_upto_region 1 with (fail)
    go_name_world X hX
    have B0 : Hid (Below w.heap.size w X) := Lib.hid (al1 hX).1
    have HP0 : Hid (Blk X w.heap.size 27 #[Value.int .i64 ir, .int .i64 glo, .int .i64 ghi, .slice Ar nr cr, .slice Ad nd cd, .int .i64 wrg]) := by rw [← hX]; exact Lib.hid (Blk.new w _ _)
    have hpc0 := HP0.out.cell
    have hpl0 := HP0.out.lt
    clear hX
    go_upto_region 3 with (go_at_call 5; (with_reducible refine (HFR.out X B0.out).mono ?_); (rintro e v1 ⟨rfl, hb⟩); (have HP1 := Lib.hid (HP0.out.below hb HP0.out.lt)); (have hpc1 := HP1.out.cell); (have hpl1 := HP1.out.lt); (have B1 := Lib.hid (B0.out.trans (hb.mono B0.out.size))); clear hb hpc0 hpl0)
    go_upto_region 4 with (go_at_call 7; refine (HCP.out v1 B1.out).mono ?_; (rintro e v2 ⟨A1, c1, A2, c2, rfl, hown, hb⟩); (have HOW := Lib.hid hown); (have HP2 := Lib.hid (HP1.out.below hb HP1.out.lt)); (have hpc2 := HP2.out.cell); (have hpl2 := HP2.out.lt); (have B2 := Lib.hid (B1.out.trans (hb.mono B1.out.size))); clear hb hpc1 hpl1; clear hown)
    go_name_world Y hY
    have BY := (al1 hY).1
    have HOM : Hid (∀ V, Below Y.heap.size Y V → MemP A1 nr A2 nd ⟨ir, glo, ghi, wrg, rods, res⟩ V) := Lib.hid (fun V hV => (HPM.out _ A1 c1 A2 c2 _ (HOW.out.later BY)).later hV)
    have HPV : Hid (∀ V, Below Y.heap.size Y V → MemP Ar nr Ad nd ⟨ir, glo, ghi, wrg, rods, res⟩ V) := Lib.hid (fun V hV => HMW.out.later ((B2.out.trans (BY.mono B2.out.size)).trans (hV.mono (Nat.le_trans B2.out.size BY.size))))
    have HO3 : Hid (Blk Y v2.heap.size 27 #[Value.int .i64 ir, .int .i64 glo, .int .i64 ghi, .slice A1 nr c1, .slice A2 nd c2, .int .i64 wrg]) := by rw [← hY]; exact Lib.hid (Blk.new v2 _ _)
    have HP3 := Lib.hid (HP2.out.below BY HP2.out.lt)
    have BWY := Lib.hid (B2.out.trans (BY.mono B2.out.size))
    have B3 : Hid (Below Y.heap.size Y Y) := Lib.hid (Below.refl _ _)
    have hoc3 := HO3.out.cell
    have hol3 := HO3.out.lt
    have hpc3 := HP3.out.cell
    have hpl3 := HP3.out.lt
    clear hY BY hpc2 hpl2
    go_upto_region 5 with (go_at_call 22; (with_reducible refine (HTO.out A1 c1 A2 c2 _ (HOM.out _ B3.out)).mono ?_); (rintro e v4 ⟨rfl, hb⟩); (have HP4 := Lib.hid (HP3.out.below hb HP3.out.lt)); (have hpc4 := HP4.out.cell); (have hpl4 := HP4.out.lt); (have HO4 := Lib.hid (HO3.out.below hb HO3.out.lt)); (have hoc4 := HO4.out.cell); (have hol4 := HO4.out.lt); (have B4 := Lib.hid (B3.out.trans (hb.mono B3.out.size))); clear hb hpc3 hpl3 hoc3 hol3)
    go_name_world v5 hv5
    have hb := (al1 hv5).1
    have HS5 : Hid (Blk v5 v4.heap.size 23 #[.int .i64 s0, .int .i64 s1]) := by rw [← hv5]; exact Lib.hid (Blk.new v4 _ _)
    clear hv5
    have HP5 := Lib.hid (HP4.out.below hb HP4.out.lt)
    have hpc5 := HP5.out.cell
    have hpl5 := HP5.out.lt
    clear hpc4 hpl4
    have HO5 := Lib.hid (HO4.out.below hb HO4.out.lt)
    have hoc5 := HO5.out.cell
    have hol5 := HO5.out.lt
    clear hoc4 hol4
    have hsc5 := HS5.out.cell
    have hsl5 := HS5.out.lt
    have B5 := Lib.hid (B4.out.trans (hb.mono B4.out.size))
    clear hb
    go_upto_region 6 with (go_at_call 23; (with_reducible refine (HTP.out _ (HPV.out _ B5.out)).mono ?_); (rintro e v6 ⟨rfl, hb⟩); (have HP6 := Lib.hid (HP5.out.below hb HP5.out.lt)); (have hpc6 := HP6.out.cell); (have hpl6 := HP6.out.lt); (have HO6 := Lib.hid (HO5.out.below hb HO5.out.lt)); (have hoc6 := HO6.out.cell); (have hol6 := HO6.out.lt); (have HS6 := Lib.hid (HS5.out.below hb HS5.out.lt)); (have hsc6 := HS6.out.cell); (have hsl6 := HS6.out.lt); (have B6 := Lib.hid (B5.out.trans (hb.mono B5.out.size))); clear hb hpc5 hpl5 hoc5 hol5 hsc5 hsl5)
    go_name_world v7 hv7
    have hb := (al1 hv7).1
    have HT7 : Hid (Blk v7 v6.heap.size 23 #[.int .i64 s0, .int .i64 s1]) := by rw [← hv7]; exact Lib.hid (Blk.new v6 _ _)
    clear hv7
    have HP7 := Lib.hid (HP6.out.below hb HP6.out.lt)
    have hpc7 := HP7.out.cell
    have hpl7 := HP7.out.lt
    clear hpc6 hpl6
    have HO7 := Lib.hid (HO6.out.below hb HO6.out.lt)
    have hoc7 := HO7.out.cell
    have hol7 := HO7.out.lt
    clear hoc6 hol6
    have HS7 := Lib.hid (HS6.out.below hb HS6.out.lt)
    have hsc7 := HS7.out.cell
    have hsl7 := HS7.out.lt
    clear hsc6 hsl6
    have htc7 := HT7.out.cell
    have htl7 := HT7.out.lt
    have B7 := Lib.hid (B6.out.trans (hb.mono B6.out.size))
    clear hb
    go_upto_region 7 with (go_at_call 24; (with_reducible refine (HHO.out A1 c1 A2 c2 _ (HOM.out _ B7.out)).mono ?_); (rintro e v8 ⟨rfl, hb⟩); (have HP8 := Lib.hid (HP7.out.below hb HP7.out.lt)); (have hpc8 := HP8.out.cell); (have hpl8 := HP8.out.lt); (have HO8 := Lib.hid (HO7.out.below hb HO7.out.lt)); (have hoc8 := HO8.out.cell); (have hol8 := HO8.out.lt); (have HS8 := Lib.hid (HS7.out.below hb HS7.out.lt)); (have hsc8 := HS8.out.cell); (have hsl8 := HS8.out.lt); (have HT8 := Lib.hid (HT7.out.below hb HT7.out.lt)); (have htc8 := HT8.out.cell); (have htl8 := HT8.out.lt); (have B8 := Lib.hid (B7.out.trans (hb.mono B7.out.size))); clear hb hpc7 hpl7 hoc7 hol7 hsc7 hsl7 htc7 htl7)
    go_upto_region 8 with (go_at_call 25; (with_reducible refine (HHP.out _ (HPV.out _ B8.out)).mono ?_); (rintro e v9 ⟨rfl, hb⟩); (have HP9 := Lib.hid (HP8.out.below hb HP8.out.lt)); (have hpc9 := HP9.out.cell); (have hpl9 := HP9.out.lt); (have HO9 := Lib.hid (HO8.out.below hb HO8.out.lt)); (have hoc9 := HO9.out.cell); (have hol9 := HO9.out.lt); (have HS9 := Lib.hid (HS8.out.below hb HS8.out.lt)); (have hsc9 := HS9.out.cell); (have hsl9 := HS9.out.lt); (have HT9 := Lib.hid (HT8.out.below hb HT8.out.lt)); (have htc9 := HT9.out.cell); (have htl9 := HT9.out.lt); (have B9 := Lib.hid (B8.out.trans (hb.mono B8.out.size))); clear hb hpc8 hpl8 hoc8 hol8 hsc8 hsl8 htc8 htl8)
    go_upto_region 9 with (go_at_call 26; (with_reducible refine (HBO.out A1 c1 A2 c2 _ (HOM.out _ B9.out)).mono ?_); (rintro e v10 ⟨rfl, hb⟩); (have HP10 := Lib.hid (HP9.out.below hb HP9.out.lt)); (have hpc10 := HP10.out.cell); (have hpl10 := HP10.out.lt); (have HO10 := Lib.hid (HO9.out.below hb HO9.out.lt)); (have hoc10 := HO10.out.cell); (have hol10 := HO10.out.lt); (have HS10 := Lib.hid (HS9.out.below hb HS9.out.lt)); (have hsc10 := HS10.out.cell); (have hsl10 := HS10.out.lt); (have HT10 := Lib.hid (HT9.out.below hb HT9.out.lt)); (have htc10 := HT10.out.cell); (have htl10 := HT10.out.lt); (have B10 := Lib.hid (B9.out.trans (hb.mono B9.out.size))); clear hb hpc9 hpl9 hoc9 hol9 hsc9 hsl9 htc9 htl9)
    go_upto_region 10 with (go_at_call 27; (with_reducible refine (HBP.out _ (HPV.out _ B10.out)).mono ?_); (rintro e v11 ⟨rfl, hb⟩); (have HP11 := Lib.hid (HP10.out.below hb HP10.out.lt)); (have hpc11 := HP11.out.cell); (have hpl11 := HP11.out.lt); (have HO11 := Lib.hid (HO10.out.below hb HO10.out.lt)); (have hoc11 := HO11.out.cell); (have hol11 := HO11.out.lt); (have HS11 := Lib.hid (HS10.out.below hb HS10.out.lt)); (have hsc11 := HS11.out.cell); (have hsl11 := HS11.out.lt); (have HT11 := Lib.hid (HT10.out.below hb HT10.out.lt)); (have htc11 := HT11.out.cell); (have htl11 := HT11.out.lt); (have B11 := Lib.hid (B10.out.trans (hb.mono B10.out.size))); clear hb hpc10 hpl10 hoc10 hol10 hsc10 hsl10 htc10 htl10)
    go_upto_region 11 with (go_at_call 28; (with_reducible refine (HNO.out A1 c1 A2 c2 _ (HOM.out _ B11.out)).mono ?_); (rintro e v12 ⟨rfl, hb⟩); (have HP12 := Lib.hid (HP11.out.below hb HP11.out.lt)); (have hpc12 := HP12.out.cell); (have hpl12 := HP12.out.lt); (have HO12 := Lib.hid (HO11.out.below hb HO11.out.lt)); (have hoc12 := HO12.out.cell); (have hol12 := HO12.out.lt); (have HS12 := Lib.hid (HS11.out.below hb HS11.out.lt)); (have hsc12 := HS12.out.cell); (have hsl12 := HS12.out.lt); (have HT12 := Lib.hid (HT11.out.below hb HT11.out.lt)); (have htc12 := HT12.out.cell); (have htl12 := HT12.out.lt); (have B12 := Lib.hid (B11.out.trans (hb.mono B11.out.size))); clear hb hpc11 hpl11 hoc11 hol11 hsc11 hsl11 htc11 htl11)
    go_upto_region 12 with (go_at_call 29; (with_reducible refine (HNP.out _ (HPV.out _ B12.out)).mono ?_); (rintro e v13 ⟨rfl, hb⟩); (have HP13 := Lib.hid (HP12.out.below hb HP12.out.lt)); (have hpc13 := HP13.out.cell); (have hpl13 := HP13.out.lt); (have HO13 := Lib.hid (HO12.out.below hb HO12.out.lt)); (have hoc13 := HO13.out.cell); (have hol13 := HO13.out.lt); (have HS13 := Lib.hid (HS12.out.below hb HS12.out.lt)); (have hsc13 := HS13.out.cell); (have hsl13 := HS13.out.lt); (have HT13 := Lib.hid (HT12.out.below hb HT12.out.lt)); (have htc13 := HT13.out.cell); (have htl13 := HT13.out.lt); (have B13 := Lib.hid (B12.out.trans (hb.mono B12.out.size))); clear hb hpc12 hpl12 hoc12 hol12 hsc12 hsl12 htc12 htl12)
    go_wp2_with (first | (go_at_call 21; (with_reducible refine (HSM.out A1 c1 A2 c2 _ (HOM.out _ B13.out) (HPV.out _ B13.out)).mono ?_); (rintro e v14 ⟨rfl, hb⟩); (have HP14 := Lib.hid (HP13.out.below hb HP13.out.lt)); (have hpc14 := HP14.out.cell); (have hpl14 := HP14.out.lt); (have HO14 := Lib.hid (HO13.out.below hb HO13.out.lt)); (have hoc14 := HO14.out.cell); (have hol14 := HO14.out.lt); (have HS14 := Lib.hid (HS13.out.below hb HS13.out.lt)); (have hsc14 := HS14.out.cell); (have hsl14 := HS14.out.lt); (have HT14 := Lib.hid (HT13.out.below hb HT13.out.lt)); (have htc14 := HT14.out.cell); (have htl14 := HT14.out.lt); (have B14 := Lib.hid (B13.out.trans (hb.mono B13.out.size))); clear hb hpc13 hpl13 hoc13 hol13 hsc13 hsl13 htc13 htl13) | (go_at_call 6; refine (works4_c _).mono ?_; (rintro e w9 ⟨rfl, hb9⟩); (have B99 := Lib.hid (BWY.out.trans ((B14.out.trans (hb9.mono B14.out.size)).mono BWY.out.size))); clear hb9))
    go_ret
    exact ⟨rfl, B99.out⟩

end Go.Proofs.Ytmmgkmdfecnkdaa
