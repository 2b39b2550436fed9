/- StretchParts of the statements (layer 4), walked. -/
import Derived.Test.YtjlibgledkdfiaaPa4
import Derived.Shelf.Abstract
import Derived.Laws.EntriesVeiled
import Derived.Handy
import Derived.Deep.DrawnRows
import Derived.Deep.DeepCutAuto
namespace Go.Proofs.Ytjlibgledkdfiaa
open Go.RowKit
open Go.Sort (grow)
set_option linter.unusedVariables false

set_option maxRecDepth 100000 in
set_option maxHeartbeats 6400000 in
theorem parts4_c (Ar : Option Addr) (nr cr : Nat) (Ad : Option Addr) (nd cd : Nat) (p : P4) (a b : Int) (w : World) (HM : MemP Ar nr Ad nd p w) :
    Calls Try.prog 4 #[.agg #[.int .i64 p.ir, .int .i64 p.glo, .int .i64 p.ghi, .slice Ar nr cr, .slice Ad nd cd, .int .i64 p.wr], .int .i64 a, .int .i64 b] w fun e w' => e = .returned (.bool true) ∧ Below w.heap.size w w' := by
  have HRD := Lib.hid (fun V (hV : Below w.heap.size w V) => ready4_c Ar nr cr Ad nd cd p V (HM.later hV))
  cases hrd : ready4 p
  · rw [hrd] at HRD
    clear hrd HM
    obtain ⟨ir, glo, ghi, wrg, rods, res⟩ := p
    simp only at HRD ⊢
    go_enter Try.func4, Try.ntmps4
    go_upto_region 1 with (fail)
    go_name_world X hX
    have BX : Below w.heap.size w X := (al1 hX).1
    have HPX : Hid (Blk X w.heap.size 27 #[.int .i64 ir, .int .i64 glo, .int .i64 ghi, .slice Ar nr cr, .slice Ad nd cd, .int .i64 wrg]) := by rw [← hX]; exact Lib.hid (Blk.new w _ _)
    have qX := HPX.out.cell
    have lX := HPX.out.lt
    clear hX
    go_wp2_with (first | (go_at_call 12; refine (HRD.out X BX).mono ?_; (rintro e w1 ⟨rfl, hb1⟩); (have B1 := BX.trans (hb1.mono BX.size)); clear hb1) | (go_at_call 13; refine (works4_c w1).mono ?_; (rintro e w9 ⟨rfl, hb9⟩); (have B9 := B1.trans (hb9.mono B1.size)); clear hb9))
    go_ret
    exact ⟨rfl, B9⟩
  rw [hrd] at HRD
  have rdy := ready4_iff hrd
  by_cases ha : 0 ≤ a
  case neg =>
    have haB : decide (a < 0) = true := by simp; omega
    clear hrd HM rdy
    obtain ⟨ir, glo, ghi, wrg, rods, res⟩ := p
    simp only at HRD ⊢
    go_enter Try.func4, Try.ntmps4
    go_upto_region 1 with (fail)
    go_name_world X hX
    have BX : Below w.heap.size w X := (al1 hX).1
    have HPX : Hid (Blk X w.heap.size 27 #[.int .i64 ir, .int .i64 glo, .int .i64 ghi, .slice Ar nr cr, .slice Ad nd cd, .int .i64 wrg]) := by rw [← hX]; exact Lib.hid (Blk.new w _ _)
    have qX := HPX.out.cell
    have lX := HPX.out.lt
    clear hX
    go_wp2_with (first | (go_at_call 12; refine (HRD.out X BX).mono ?_; (rintro e w1 ⟨rfl, hb1⟩); (have B1 := BX.trans (hb1.mono BX.size)); clear hb1) | (go_at_call 13; refine (works4_c w1).mono ?_; (rintro e w9 ⟨rfl, hb9⟩); (have B9 := B1.trans (hb9.mono B1.size)); clear hb9))
    go_ret
    exact ⟨rfl, B9⟩
  have haB : decide (a < 0) = false := by simp; omega
  by_cases hb0 : a ≤ b
  case neg =>
    have hbB : decide (b < a) = true := by simp; omega
    clear hrd HM rdy
    obtain ⟨ir, glo, ghi, wrg, rods, res⟩ := p
    simp only at HRD ⊢
    go_enter Try.func4, Try.ntmps4
    go_upto_region 1 with (fail)
    go_name_world X hX
    have BX : Below w.heap.size w X := (al1 hX).1
    have HPX : Hid (Blk X w.heap.size 27 #[.int .i64 ir, .int .i64 glo, .int .i64 ghi, .slice Ar nr cr, .slice Ad nd cd, .int .i64 wrg]) := by rw [← hX]; exact Lib.hid (Blk.new w _ _)
    have qX := HPX.out.cell
    have lX := HPX.out.lt
    clear hX
    go_wp2_with (first | (go_at_call 12; refine (HRD.out X BX).mono ?_; (rintro e w1 ⟨rfl, hb1⟩); (have B1 := BX.trans (hb1.mono BX.size)); clear hb1) | (go_at_call 13; refine (works4_c w1).mono ?_; (rintro e w9 ⟨rfl, hb9⟩); (have B9 := B1.trans (hb9.mono B1.size)); clear hb9))
    go_ret
    exact ⟨rfl, B9⟩
  have hbB : decide (b < a) = false := by simp; omega
  by_cases hb1 : b ≤ 1000
  case neg =>
    have hcB : decide ((1000 : Int) < b) = true := by simp; omega
    clear hrd HM rdy
    obtain ⟨ir, glo, ghi, wrg, rods, res⟩ := p
    simp only at HRD ⊢
    go_enter Try.func4, Try.ntmps4
    go_upto_region 1 with (fail)
    go_name_world X hX
    have BX : Below w.heap.size w X := (al1 hX).1
    have HPX : Hid (Blk X w.heap.size 27 #[.int .i64 ir, .int .i64 glo, .int .i64 ghi, .slice Ar nr cr, .slice Ad nd cd, .int .i64 wrg]) := by rw [← hX]; exact Lib.hid (Blk.new w _ _)
    have qX := HPX.out.cell
    have lX := HPX.out.lt
    clear hX
    go_wp2_with (first | (go_at_call 12; refine (HRD.out X BX).mono ?_; (rintro e w1 ⟨rfl, hb1⟩); (have B1 := BX.trans (hb1.mono BX.size)); clear hb1) | (go_at_call 13; refine (works4_c w1).mono ?_; (rintro e w9 ⟨rfl, hb9⟩); (have B9 := B1.trans (hb9.mono B1.size)); clear hb9))
    go_ret
    exact ⟨rfl, B9⟩
  have hcB : decide ((1000 : Int) < b) = false := by simp; omega
  have hr := HM.hr.1
  have hd := HM.hd.1
  have hnr : nr ≤ 40 := by have := rdy.nr; omega
  have hnd : nd ≤ 40 := by have := rdy.nd; omega
  have wa : wn a 0 1000 = true := wn_true.2 ⟨ha, by omega⟩
  have wb : wn b 0 1000 = true := wn_true.2 ⟨by omega, hb1⟩
  have w0 : wn 0 0 1000 = true := by decide
  have HST := fun V (hV : Below w.heap.size w V) => stretch4_c Ar nr cr Ad nd cd p V hnr hnd (HM.later hV) rdy.len
  have HHA := fun V (hV : Below w.heap.size w V) => Holds4_c Ar nr cr Ad nd cd p a V hnr hnd (HM.later hV) rdy.len
  have HHB := fun V (hV : Below w.heap.size w V) => Holds4_c Ar nr cr Ad nd cd p b V hnr hnd (HM.later hV) rdy.len
  have HHZ := fun V (hV : Below w.heap.size w V) => Holds4_c Ar nr cr Ad nd cd p 0 V hnr hnd (HM.later hV) rdy.len
  have HBE := fun V (hV : Below w.heap.size w V) => best4_c Ar nr cr Ad nd cd p V hnr hnd (HM.later hV) rdy.len
  have hh : ∀ t, wn t 0 1000 = true → hds4 p t = bif op4 p true == 0 then hd4 (tr4 p) t else 0 := fun t ht => by unfold hds4; rw [ht]
  rw [hh a wa, wa] at HHA
  rw [hh b wb, wb] at HHB
  rw [hh 0 w0, w0] at HHZ
  have hbv : bev4 p = bif op4 p true == 0 then ((bst4 (tr4 p)).map fun k => (k : Int)).getD 0 else 0 := rfl
  have hbe : bee4 p = bif op4 p true == 0 then (bif (bst4 (tr4 p)).isSome then 0 else 3) else op4 p true := rfl
  rw [hbv, hbe] at HBE
  have hop : op4 p true = bif (tr4 p).isEmpty then 3 else 0 := by unfold op4; rw [rdy.ck]; rfl
  have hol : ol4 p true = tr4 p := by unfold ol4; rw [rdy.ck]; rfl
  have hst : st4 p = en4 (tr4 p) (tr4 p).length := by unfold st4; rw [hol]
  have hok : ∀ x ∈ tr4 p, OkB x := by rw [← hol]; exact ol4_ok rdy.nr rdy.nd
  rw [hst] at HST
  by_cases hne : tr4 p = []
  · rw [show op4 p true = 3 by rw [hop, hne]; rfl] at HST HHA HHB HHZ HBE
    obtain ⟨lo, hlo⟩ : ∃ x, (en4 (tr4 p) (tr4 p).length).lo = x := ⟨_, rfl⟩
    obtain ⟨hi, hhi⟩ : ∃ x, (en4 (tr4 p) (tr4 p).length).hi = x := ⟨_, rfl⟩
    rw [hlo, hhi] at HST
    replace HST := Lib.hid HST
    replace HHA := Lib.hid HHA
    replace HHB := Lib.hid HHB
    replace HHZ := Lib.hid HHZ
    replace HBE := Lib.hid HBE
    have HK1 := Lib.hid (fun V => isKnown4_c 3 V)
    have HK2 := Lib.hid (fun V => isKnown4_c 0 V)
    have HSN := Lib.hid (fun V => sane4_c ⟨lo, hi⟩ V)
    simp only [show ((3 : Int) == 0) = false from rfl, cond_false] at HHA HHB HHZ HBE
    rw [show kn4 3 = true from rfl] at HK1
    clear hrd HM rdy hh hbv hbe hop hol hst hok hne hlo hhi ha hb0 hb1 wa wb w0 hr hd
    obtain ⟨ir, glo, ghi, wrg, rods, res⟩ := p
    simp only at HRD HST HHA HHB HHZ HBE ⊢
    go_enter Try.func4, Try.ntmps4
    go_upto_region 1 with (fail)
    go_name_world X hX
    have BX : Below w.heap.size w X := (al1 hX).1
    have HPX : Hid (Blk X w.heap.size 27 #[.int .i64 ir, .int .i64 glo, .int .i64 ghi, .slice Ar nr cr, .slice Ad nd cd, .int .i64 wrg]) := by rw [← hX]; exact Lib.hid (Blk.new w _ _)
    have qX := HPX.out.cell
    have lX := HPX.out.lt
    clear hX
    go_upto_region 3 with (go_at_call 12; refine (HRD.out X BX).mono ?_; (rintro e w1 ⟨rfl, hb⟩); (have Bw1 := BX.trans (hb.mono BX.size)); (have HPw1 := Lib.hid (HPX.out.below hb HPX.out.lt)); (have qw1 := HPw1.out.cell); (have lw1 := HPw1.out.lt); clear hb qX lX)
    go_upto_region 4 with (go_at_call 14; refine (HST.out w1 Bw1).mono ?_; (rintro e w2 ⟨rfl, hb⟩); (have Bw2 := Bw1.trans (hb.mono Bw1.size)); (have HPw2 := Lib.hid (HPw1.out.below hb HPw1.out.lt)); clear hb qw1 lw1)
    go_name_world Y hY
    have bY := (al1 hY).1
    have BY := Bw2.trans (bY.mono Bw2.size)
    have HPY := Lib.hid (HPw2.out.below bY HPw2.out.lt)
    have HSY : Hid (Blk Y w2.heap.size 23 #[.int .i64 lo, .int .i64 hi]) := by rw [← hY]; exact Lib.hid (Blk.new _ _ _)
    have qY := HPY.out.cell
    have lY := HPY.out.lt
    clear hY bY
    go_upto_region 5 with (go_at_call 16; refine (HHA.out Y BY).mono ?_; (rintro e w3 ⟨rfl, hb⟩); (have Bw3 := BY.trans (hb.mono BY.size)); (have HPw3 := Lib.hid (HPY.out.below hb HPY.out.lt)); (have HSw3 := Lib.hid (HSY.out.below hb HSY.out.lt)); (have qw3 := HPw3.out.cell); (have lw3 := HPw3.out.lt); clear hb qY lY)
    go_upto_region 6 with (go_at_call 16; refine (HHB.out w3 Bw3).mono ?_; (rintro e w4 ⟨rfl, hb⟩); (have Bw4 := Bw3.trans (hb.mono Bw3.size)); (have HPw4 := Lib.hid (HPw3.out.below hb HPw3.out.lt)); (have HSw4 := Lib.hid (HSw3.out.below hb HSw3.out.lt)); (have qw4 := HPw4.out.cell); (have lw4 := HPw4.out.lt); clear hb qw3 lw3)
    go_upto_region 7 with (go_at_call 16; refine (HHZ.out w4 Bw4).mono ?_; (rintro e w5 ⟨rfl, hb⟩); (have Bw5 := Bw4.trans (hb.mono Bw4.size)); (have HPw5 := Lib.hid (HPw4.out.below hb HPw4.out.lt)); (have HSw5 := Lib.hid (HSw4.out.below hb HSw4.out.lt)); (have qw5 := HPw5.out.cell); (have lw5 := HPw5.out.lt); clear hb qw4 lw4)
    go_upto_region 8 with (go_at_call 17; refine (HBE.out w5 Bw5).mono ?_; (rintro e w6 ⟨rfl, hb⟩); (have Bw6 := Bw5.trans (hb.mono Bw5.size)); (have HPw6 := Lib.hid (HPw5.out.below hb HPw5.out.lt)); (have HSw6 := Lib.hid (HSw5.out.below hb HSw5.out.lt)); (have qw6 := HPw6.out.cell); (have lw6 := HPw6.out.lt); clear hb qw5 lw5)
    clear qw6 lw6
    have kS := HSw6.out.cell
    have lS := HSw6.out.lt
    go_wp2_with (first | (go_at_call 18; (first | with_reducible refine (HK1.out _).mono ?_ | with_reducible refine (HK2.out _).mono ?_); rintro e w' ⟨rfl, rfl⟩) | (go_at_call 15; refine (HSN.out w6).mono ?_; (rintro e w7 ⟨rfl, hb7⟩); (have Bw7 := Bw6.trans (hb7.mono Bw6.size)); clear hb7) | (go_at_call 13; refine (works4_c _).mono ?_; (rintro e w9 ⟨rfl, hb9⟩); (have B9 : Below w.heap.size w w9 := by first | exact Bw7.trans (hb9.mono Bw7.size) | exact Bw6.trans (hb9.mono Bw6.size)); clear hb9))
    go_ret
    exact ⟨ret_bool (by first | rfl | simp), B9⟩
  have hz0 : op4 p true = 0 := by
    rw [hop]
    cases e : tr4 p with
    | nil => exact absurd e hne
    | cons x l => rfl
  rw [hz0] at HST HHA HHB HHZ HBE
  simp only [show ((0 : Int) == 0) = true from rfl, cond_true] at HHA HHB HHZ HBE
  have hsn := en4_sane hok hne
  have hzz := hd4_zero hne
  have hup := hd4_up hok hb0
  have hdn := hd4_down hok hb0
  have hra := hd4_range (l := tr4 p) (pt := a)
  have hrb := hd4_range (l := tr4 p) (pt := b)
  have hba := fun k (h : bst4 (tr4 p) = some k) => bst4_at hok h ha
  have hbb := fun k (h : bst4 (tr4 p) = some k) => bst4_at hok h (show 0 ≤ b by omega)
  have hbn := fun (h : bst4 (tr4 p) = none) => bst4_no h (show 0 ≤ b ∧ b ≤ 1000 by omega)
  obtain ⟨lo, hlo⟩ : ∃ x, (en4 (tr4 p) (tr4 p).length).lo = x := ⟨_, rfl⟩
  obtain ⟨hi, hhi⟩ : ∃ x, (en4 (tr4 p) (tr4 p).length).hi = x := ⟨_, rfl⟩
  obtain ⟨m, hm⟩ : ∃ x, hd4 (tr4 p) a = x := ⟨_, rfl⟩
  obtain ⟨n, hn⟩ : ∃ x, hd4 (tr4 p) b = x := ⟨_, rfl⟩
  obtain ⟨zz, hz⟩ : ∃ x, hd4 (tr4 p) 0 = x := ⟨_, rfl⟩
  rw [hlo, hhi] at HST
  rw [hhi, hz] at hzz
  rw [hm] at HHA hup hdn hra hba
  rw [hn] at HHB hup hdn hrb hbb hbn
  rw [hz] at HHZ
  have HSN : Hid (∀ V, Calls Try.prog 15 #[.agg #[.int .i64 lo, .int .i64 hi]] V fun e w' => e = .returned (.bool true) ∧ Below V.heap.size V w') := Lib.hid (fun V => by
    have := sane4_c (en4 (tr4 p) (tr4 p).length) V
    rw [hsn, hlo, hhi] at this
    exact this)
  have HK1 := Lib.hid (fun V => isKnown4_c 0 V)
  have HK2 := Lib.hid (fun V => isKnown4_c 3 V)
  rw [show kn4 0 = true from rfl] at HK1
  rw [show kn4 3 = true from rfl] at HK2
  have hmn : (m = 1 ∧ n = 1) ∨ ((m == 1) = false ∧ n = 1) ∨ (m = 2 ∧ n = 2) ∨ ((m == 1) = false ∧ n = 3) := by
    rcases hra with h | h | h
    · exact .inl ⟨h, hup h⟩
    · rcases hrb with h' | h' | h'
      · exact .inr (.inl ⟨by rw [h]; rfl, h'⟩)
      · exact .inr (.inr (.inl ⟨h, h'⟩))
      · exact .inr (.inr (.inr ⟨by rw [h]; rfl, h'⟩))
    · rcases hrb with h' | h' | h'
      · exact .inr (.inl ⟨by rw [h]; rfl, h'⟩)
      · have := hdn h'; omega
      · exact .inr (.inr (.inr ⟨by rw [h]; rfl, h'⟩))
  have hzc : (zz = 1 ∧ decide (hi ≤ 0) = true) ∨ ((zz == 1) = false ∧ decide (hi ≤ 0) = false) := by
    by_cases h : zz = 1
    · exact .inl ⟨h, decide_eq_true (hzz.1 h)⟩
    · exact .inr ⟨by simpa using h, decide_eq_false fun h' => h (hzz.2 h')⟩
  replace HST := Lib.hid HST
  replace HHA := Lib.hid HHA
  replace HHB := Lib.hid HHB
  replace HHZ := Lib.hid HHZ
  cases hbs : bst4 (tr4 p) with
  | none =>
    rw [hbs] at HBE
    replace HBE := Lib.hid HBE
    simp only [Option.map_none, Option.getD_none, Option.isSome_none, cond_false] at HBE
    have hn1 := hbn hbs
    clear hrd HM rdy hh hbv hbe hop hol hst hok hne hlo hhi ha hb0 hb1 wa wb w0 hr hd hsn hup hdn hra hrb hba hbb hbn hzz hm hn hz hz0 hbs
    obtain ⟨ir, glo, ghi, wrg, rods, res⟩ := p
    simp only at HRD HST HHA HHB HHZ HBE ⊢
    rcases hmn with ⟨rfl, rfl⟩ | ⟨hmB, rfl⟩ | ⟨rfl, rfl⟩ | ⟨hmB, rfl⟩
    · exact absurd rfl hn1
    · exact absurd rfl hn1
    all_goals
      clear hn1
      rcases hzc with ⟨rfl, hhB⟩ | ⟨hzB, hhB⟩
      all_goals
        skip
        go_enter Try.func4, Try.ntmps4
        go_upto_region 1 with (fail)
        go_name_world X hX
        have BX : Below w.heap.size w X := (al1 hX).1
        have HPX : Hid (Blk X w.heap.size 27 #[.int .i64 ir, .int .i64 glo, .int .i64 ghi, .slice Ar nr cr, .slice Ad nd cd, .int .i64 wrg]) := by rw [← hX]; exact Lib.hid (Blk.new w _ _)
        have qX := HPX.out.cell
        have lX := HPX.out.lt
        clear hX
        go_upto_region 3 with (go_at_call 12; refine (HRD.out X BX).mono ?_; (rintro e w1 ⟨rfl, hb⟩); (have Bw1 := BX.trans (hb.mono BX.size)); (have HPw1 := Lib.hid (HPX.out.below hb HPX.out.lt)); (have qw1 := HPw1.out.cell); (have lw1 := HPw1.out.lt); clear hb qX lX)
        go_upto_region 4 with (go_at_call 14; refine (HST.out w1 Bw1).mono ?_; (rintro e w2 ⟨rfl, hb⟩); (have Bw2 := Bw1.trans (hb.mono Bw1.size)); (have HPw2 := Lib.hid (HPw1.out.below hb HPw1.out.lt)); clear hb qw1 lw1)
        go_name_world Y hY
        have bY := (al1 hY).1
        have BY := Bw2.trans (bY.mono Bw2.size)
        have HPY := Lib.hid (HPw2.out.below bY HPw2.out.lt)
        have HSY : Hid (Blk Y w2.heap.size 23 #[.int .i64 lo, .int .i64 hi]) := by rw [← hY]; exact Lib.hid (Blk.new _ _ _)
        have qY := HPY.out.cell
        have lY := HPY.out.lt
        clear hY bY
        go_upto_region 5 with (go_at_call 16; refine (HHA.out Y BY).mono ?_; (rintro e w3 ⟨rfl, hb⟩); (have Bw3 := BY.trans (hb.mono BY.size)); (have HPw3 := Lib.hid (HPY.out.below hb HPY.out.lt)); (have HSw3 := Lib.hid (HSY.out.below hb HSY.out.lt)); (have qw3 := HPw3.out.cell); (have lw3 := HPw3.out.lt); clear hb qY lY)
        go_upto_region 6 with (go_at_call 16; refine (HHB.out w3 Bw3).mono ?_; (rintro e w4 ⟨rfl, hb⟩); (have Bw4 := Bw3.trans (hb.mono Bw3.size)); (have HPw4 := Lib.hid (HPw3.out.below hb HPw3.out.lt)); (have HSw4 := Lib.hid (HSw3.out.below hb HSw3.out.lt)); (have qw4 := HPw4.out.cell); (have lw4 := HPw4.out.lt); clear hb qw3 lw3)
        go_upto_region 7 with (go_at_call 16; refine (HHZ.out w4 Bw4).mono ?_; (rintro e w5 ⟨rfl, hb⟩); (have Bw5 := Bw4.trans (hb.mono Bw4.size)); (have HPw5 := Lib.hid (HPw4.out.below hb HPw4.out.lt)); (have HSw5 := Lib.hid (HSw4.out.below hb HSw4.out.lt)); (have qw5 := HPw5.out.cell); (have lw5 := HPw5.out.lt); clear hb qw4 lw4)
        go_upto_region 8 with (go_at_call 17; refine (HBE.out w5 Bw5).mono ?_; (rintro e w6 ⟨rfl, hb⟩); (have Bw6 := Bw5.trans (hb.mono Bw5.size)); (have HPw6 := Lib.hid (HPw5.out.below hb HPw5.out.lt)); (have HSw6 := Lib.hid (HSw5.out.below hb HSw5.out.lt)); (have qw6 := HPw6.out.cell); (have lw6 := HPw6.out.lt); clear hb qw5 lw5)
        clear qw6 lw6
        have kS := HSw6.out.cell
        have lS := HSw6.out.lt
        go_wp2_with (first | (go_at_call 18; (first | with_reducible refine (HK1.out _).mono ?_ | with_reducible refine (HK2.out _).mono ?_); rintro e w' ⟨rfl, rfl⟩) | (go_at_call 15; refine (HSN.out w6).mono ?_; (rintro e w7 ⟨rfl, hb7⟩); (have Bw7 := Bw6.trans (hb7.mono Bw6.size)); clear hb7) | (go_at_call 13; refine (works4_c _).mono ?_; (rintro e w9 ⟨rfl, hb9⟩); (have B9 : Below w.heap.size w w9 := by first | exact Bw7.trans (hb9.mono Bw7.size) | exact Bw6.trans (hb9.mono Bw6.size)); clear hb9))
        go_ret
        exact ⟨ret_bool (by first | rfl | simp), B9⟩
  | some k =>
    rw [hbs] at HBE
    replace HBE := Lib.hid HBE
    simp only [Option.map_some, Option.getD_some, Option.isSome_some, cond_true] at HBE
    have hka := hba k hbs
    have hkb := hbb k hbs
    clear hrd HM rdy hh hbv hbe hop hol hst hok hne hlo hhi ha hb0 hb1 wa wb w0 hr hd hsn hup hdn hra hrb hba hbb hbn hzz hm hn hz hz0 hbs
    obtain ⟨ir, glo, ghi, wrg, rods, res⟩ := p
    simp only at HRD HST HHA HHB HHZ HBE ⊢
    have hma : decide ((k : Int) ≤ a) = (m == 1) := by rw [Bool.eq_iff_iff, decide_eq_true_eq, ← hka]; simp
    have hmb : decide ((k : Int) ≤ b) = (n == 1) := by rw [Bool.eq_iff_iff, decide_eq_true_eq, ← hkb]; simp
    clear hka hkb
    rcases hmn with ⟨rfl, rfl⟩ | ⟨hmB, rfl⟩ | ⟨rfl, rfl⟩ | ⟨hmB, rfl⟩
    all_goals
      first
      | (have hmaB : decide ((k : Int) ≤ a) = false := by rw [hma]; first | exact hmB | rfl
         clear hma)
      | (have hmaB : decide ((k : Int) ≤ a) = true := by rw [hma]; rfl
         clear hma)
      first
      | (have hmbB : decide ((k : Int) ≤ b) = false := by rw [hmb]; rfl
         clear hmb)
      | (have hmbB : decide ((k : Int) ≤ b) = true := by rw [hmb]; rfl
         clear hmb)
      rcases hzc with ⟨rfl, hhB⟩ | ⟨hzB, hhB⟩
      all_goals
        skip
        go_enter Try.func4, Try.ntmps4
        go_upto_region 1 with (fail)
        go_name_world X hX
        have BX : Below w.heap.size w X := (al1 hX).1
        have HPX : Hid (Blk X w.heap.size 27 #[.int .i64 ir, .int .i64 glo, .int .i64 ghi, .slice Ar nr cr, .slice Ad nd cd, .int .i64 wrg]) := by rw [← hX]; exact Lib.hid (Blk.new w _ _)
        have qX := HPX.out.cell
        have lX := HPX.out.lt
        clear hX
        go_upto_region 3 with (go_at_call 12; refine (HRD.out X BX).mono ?_; (rintro e w1 ⟨rfl, hb⟩); (have Bw1 := BX.trans (hb.mono BX.size)); (have HPw1 := Lib.hid (HPX.out.below hb HPX.out.lt)); (have qw1 := HPw1.out.cell); (have lw1 := HPw1.out.lt); clear hb qX lX)
        go_upto_region 4 with (go_at_call 14; refine (HST.out w1 Bw1).mono ?_; (rintro e w2 ⟨rfl, hb⟩); (have Bw2 := Bw1.trans (hb.mono Bw1.size)); (have HPw2 := Lib.hid (HPw1.out.below hb HPw1.out.lt)); clear hb qw1 lw1)
        go_name_world Y hY
        have bY := (al1 hY).1
        have BY := Bw2.trans (bY.mono Bw2.size)
        have HPY := Lib.hid (HPw2.out.below bY HPw2.out.lt)
        have HSY : Hid (Blk Y w2.heap.size 23 #[.int .i64 lo, .int .i64 hi]) := by rw [← hY]; exact Lib.hid (Blk.new _ _ _)
        have qY := HPY.out.cell
        have lY := HPY.out.lt
        clear hY bY
        go_upto_region 5 with (go_at_call 16; refine (HHA.out Y BY).mono ?_; (rintro e w3 ⟨rfl, hb⟩); (have Bw3 := BY.trans (hb.mono BY.size)); (have HPw3 := Lib.hid (HPY.out.below hb HPY.out.lt)); (have HSw3 := Lib.hid (HSY.out.below hb HSY.out.lt)); (have qw3 := HPw3.out.cell); (have lw3 := HPw3.out.lt); clear hb qY lY)
        go_upto_region 6 with (go_at_call 16; refine (HHB.out w3 Bw3).mono ?_; (rintro e w4 ⟨rfl, hb⟩); (have Bw4 := Bw3.trans (hb.mono Bw3.size)); (have HPw4 := Lib.hid (HPw3.out.below hb HPw3.out.lt)); (have HSw4 := Lib.hid (HSw3.out.below hb HSw3.out.lt)); (have qw4 := HPw4.out.cell); (have lw4 := HPw4.out.lt); clear hb qw3 lw3)
        go_upto_region 7 with (go_at_call 16; refine (HHZ.out w4 Bw4).mono ?_; (rintro e w5 ⟨rfl, hb⟩); (have Bw5 := Bw4.trans (hb.mono Bw4.size)); (have HPw5 := Lib.hid (HPw4.out.below hb HPw4.out.lt)); (have HSw5 := Lib.hid (HSw4.out.below hb HSw4.out.lt)); (have qw5 := HPw5.out.cell); (have lw5 := HPw5.out.lt); clear hb qw4 lw4)
        go_upto_region 8 with (go_at_call 17; refine (HBE.out w5 Bw5).mono ?_; (rintro e w6 ⟨rfl, hb⟩); (have Bw6 := Bw5.trans (hb.mono Bw5.size)); (have HPw6 := Lib.hid (HPw5.out.below hb HPw5.out.lt)); (have HSw6 := Lib.hid (HSw5.out.below hb HSw5.out.lt)); (have qw6 := HPw6.out.cell); (have lw6 := HPw6.out.lt); clear hb qw5 lw5)
        clear qw6 lw6
        have kS := HSw6.out.cell
        have lS := HSw6.out.lt
        go_wp2_with (first | (go_at_call 18; (first | with_reducible refine (HK1.out _).mono ?_ | with_reducible refine (HK2.out _).mono ?_); rintro e w' ⟨rfl, rfl⟩) | (go_at_call 15; refine (HSN.out w6).mono ?_; (rintro e w7 ⟨rfl, hb7⟩); (have Bw7 := Bw6.trans (hb7.mono Bw6.size)); clear hb7) | (go_at_call 13; refine (works4_c _).mono ?_; (rintro e w9 ⟨rfl, hb9⟩); (have B9 : Below w.heap.size w w9 := by first | exact Bw7.trans (hb9.mono Bw7.size) | exact Bw6.trans (hb9.mono Bw6.size)); clear hb9))
        go_ret
        exact ⟨ret_bool (by first | rfl | simp), B9⟩

end Go.Proofs.Ytjlibgledkdfiaa
