/- TopYard walked where all guards hold. -/
import Derived.Test.YtcinhibmohkeiaaQy38
import Derived.Test.YtcinhibmohkeiaaQy44
import Derived.Test.YtcinhibmohkeiaaQy39
import Derived.Test.YtcinhibmohkeiaaQy40
import Derived.Test.YtcinhibmohkeiaaQy45
import Derived.Test.YtcinhibmohkeiaaQy34
import Derived.Shelf.Abstract
import Derived.Laws.EntriesVeiled
import Derived.Handy
import Derived.Deep.DrawnRows
import Derived.Deep.DeepCutAuto
namespace Go.Proofs.Ytcinhibmohkeiaa
open Go.RowKit
open Go.Sort (grow)
set_option linter.unusedVariables false
set_option linter.unusedSimpArgs false

attribute [local go_sem high] run_min25 run_max25
set_option maxRecDepth 100000 in
set_option maxHeartbeats 6400000 in
theorem topyard_main (Al : Option Addr) (nl cl : Nat) (wa l0 l1 : Int) (Ab : Option Addr) (nb cb : Nat) (wrg : Int) (lv : List Lv) (bl : List Bal) (Am : Option Addr) (nm cm : Nat) (wb h0 h1 : Int) (Ac : Option Addr) (nc cc : Nat) (wrh : Int) (lu : List Lv) (bm : List Bal) (SA : Option Addr) (ns sc : Nat) (us : List Int) (lk : Int) (SB : Option Addr) (nt sd : Nat) (ut : List Int) (lj : Int) (wt mi nom : Int) (w : World) (HL : LvsAt w Al nl lv) (HB : BasAt w Ab nb bl) (HM : LvsAt w Am nm lu) (HC : BasAt w Ac nc bm) (HS : IntsAt w SA ns us) (HT : IntsAt w SB nt ut) (hf1 : far3 nl nb wa l0 l1 wrg lv bl = false) (hf2 : far3 nm nc wb h0 h1 wrh lu bm = false) (hk1 : ckM nl nb wa l0 l1 wrg lv bl = true) (hk2 : ckM nm nc wb h0 h1 wrh lu bm = true) (g40 : ¬ (40 : Int) < ns) (g41 : ¬ (40 : Int) < nt) (ht1 : isT3 nl nb wa l0 l1 wrg (abK lv nl) lv bl us lk = true) (ht2 : isT3 nm nc wb h0 h1 wrh (abK lu nm) lu bm ut lj = true) (hak : ask3 wt mi 0 = true) (gn : ¬ nom < 1) (gm : ¬ 100000 < nom) :
    Calls Try.prog 3 #[.agg #[.slice Al nl cl, .int .i64 wa, .int .i64 l0, .int .i64 l1, .slice Ab nb cb, .int .i64 wrg], .agg #[.slice Am nm cm, .int .i64 wb, .int .i64 h0, .int .i64 h1, .slice Ac nc cc, .int .i64 wrh, .slice SA ns sc, .int .i64 lk, .slice SB nt sd, .int .i64 lj], .agg #[.int .i64 wt, .int .i64 mi, .int .i64 nom]] w fun e w' => e = .returned (.bool true) ∧ Below w.heap.size w w' := by
  have hll := HL.1
  have hbl := HB.1
  have hmm := HM.1
  have hbm := HC.1
  have hus := HS.1
  have hut := HT.1
  have kF1 := fun V (hV : Below w.heap.size w V) => Far3_c Al nl cl wa l0 l1 Ab nb cb wrg lv bl V (HL.later hV) (HB.later hV)
  have kF2 := fun V (hV : Below w.heap.size w V) => Far3_c Am nm cm wb h0 h1 Ac nc cc wrh lu bm V (HM.later hV) (HC.later hV)
  rw [hf1] at kF1
  have kFar1 := Lib.hid kF1
  obtain ⟨hn40, hb40⟩ := far3_no hf1
  clear kF1
  rw [hf2] at kF2
  have kFar2 := Lib.hid kF2
  obtain ⟨hm40, hc40⟩ := far3_no hf2
  clear kF2 hf1 hf2
  have kC1 := fun V (hV : Below w.heap.size w V) => refCheck3_c Al nl cl wa l0 l1 Ab nb cb wrg lv bl V hn40 hb40 (HL.later hV) (HB.later hV)
  have kC2 := fun V (hV : Below w.heap.size w V) => refCheck3_c Am nm cm wb h0 h1 Ac nc cc wrh lu bm V hm40 hc40 (HM.later hV) (HC.later hV)
  have kChk1 : Hid (∀ V, Below w.heap.size w V → Calls Try.prog 5 #[.agg #[.slice Al nl cl, .int .i64 wa, .int .i64 l0, .int .i64 l1, .slice Ab nb cb, .int .i64 wrg]] V fun e w' => e = .returned (.int .i64 0) ∧ Below V.heap.size V w') := Lib.hid (fun V hV => by have := kC1 V hV; rw [hk1] at this; exact this)
  have kChk2 : Hid (∀ V, Below w.heap.size w V → Calls Try.prog 5 #[.agg #[.slice Am nm cm, .int .i64 wb, .int .i64 h0, .int .i64 h1, .slice Ac nc cc, .int .i64 wrh]] V fun e w' => e = .returned (.int .i64 0) ∧ Below V.heap.size V w') := Lib.hid (fun V hV => by have := kC2 V hV; rw [hk2] at this; exact this)
  clear kC1 kC2
  have g40B : decide ((40 : Int) < ns) = false := decide_eq_false g40
  have g41B : decide ((40 : Int) < nt) = false := decide_eq_false g41
  obtain ⟨ok1, hlg1⟩ := okM_of hk1 hll hbl
  obtain ⟨ok2, hlg2⟩ := okM_of hk2 hmm hbm
  have kT1 := fun V (hV : Below w.heap.size w V) => IsTruth3_c (Al := Al) (cl := cl) (Ab := Ab) (cb := cb) (SA := SA) (sc := sc) (lk := lk) (ns := ns) (w := V) (hns := by omega) (ok := ok1) (hlg := hlg1) (HL := HL.later hV) (HB := HB.later hV) (HS := HS.later hV)
  have kT2 := fun V (hV : Below w.heap.size w V) => IsTruth3_c (Al := Am) (cl := cm) (Ab := Ac) (cb := cc) (SA := SB) (sc := sd) (lk := lj) (ns := nt) (w := V) (hns := by omega) (ok := ok2) (hlg := hlg2) (HL := HM.later hV) (HB := HC.later hV) (HS := HT.later hV)
  clear ok1 hlg1 ok2 hlg2
  rw [ht1] at kT1
  have kTru1 := Lib.hid kT1
  clear kT1
  rw [ht2] at kT2
  have kTru2 := Lib.hid kT2
  clear kT2
  have kA := fun V => refAsk3_c wt mi 0 V
  rw [hak] at kA
  have kAsk := Lib.hid kA
  clear kA
  have gnB : decide (nom < 1) = false := decide_eq_false gn
  have gmB : decide (100000 < nom) = false := decide_eq_false gm
  obtain ⟨s0, s1, e0, e1, e2, hs, hd1, hd2, hd3⟩ := ldP_truth5 hk1 hll hbl hak ht1
  obtain ⟨t0, t1, f0, f1, f2, ht, hx1, hx2, hx3⟩ := ldP_truth5 hk2 hmm hbm hak ht2
  obtain ⟨hA1, har1, hlk1, hn31, hwa1, hdB1, hab1⟩ := isT3_arms5 hk1 hll hbl ht1
  obtain ⟨hA2, har2, hlk2, hn32, hwa2, hdB2, hab2⟩ := isT3_arms5 hk2 hmm hbm ht2
  have hw : (0 ≤ wt ∧ wt ≤ 9999) ∧ 0 ≤ mi ∧ mi ≤ 99 := by
    have := hak
    unfold ask3 at this
    simp only [Bool.and_eq_true, wn_true] at this
    omega
  have hp1 := num_bd5 hwa1 hlk1 hw hab1
  have hp2 := num_bd5 hwa2 hlk2 hw hab2
  obtain ⟨num, hnu⟩ : ∃ x, pl3 wa lk wt mi * abK lv nl = x := ⟨_, rfl⟩
  obtain ⟨den, hde⟩ : ∃ x, prS3 us 0 nl = x := ⟨_, rfl⟩
  obtain ⟨nun, hnv⟩ : ∃ x, pl3 wb lj wt mi * abK lu nm = x := ⟨_, rfl⟩
  obtain ⟨dem, hdf⟩ : ∃ x, prS3 ut 0 nm = x := ⟨_, rfl⟩
  have hns : ns = nl := by omega
  have hnt : nt = nm := by omega
  have kO1 := fun V (hV : Below w.heap.size w V) => Own_c Al nl cl wa l0 l1 Ab nb cb wrg lv bl wt mi nom s0 s1 V hn40 hb40 (HL.later hV) (HB.later hV) hk1 (by omega) e0 e1 e2 (by omega) (by omega)
  have kO2 := fun V (hV : Below w.heap.size w V) => Own_c Am nm cm wb h0 h1 Ac nc cc wrh lu bm wt mi nom t0 t1 V hm40 hc40 (HM.later hV) (HC.later hV) hk2 (by omega) f0 f1 f2 (by omega) (by omega)
  have kLoa1 : Hid (∀ V, Below w.heap.size w V → Calls Try.prog 10 #[.agg #[.slice Al nl cl, .int .i64 wa, .int .i64 l0, .int .i64 l1, .slice Ab nb cb, .int .i64 wrg], .agg #[.slice SA ns sc, .int .i64 lk], .int .i64 wt, .int .i64 mi] V fun e w' => e = .returned (.tuple #[.int .i64 num, .int .i64 den]) ∧ Below V.heap.size V w') := Lib.hid (fun V hV => by have := LoadOf3_c (Al := Al) (cl := cl) (l0 := l0) (l1 := l1) (Ab := Ab) (nb := nb) (cb := cb) (wrg := wrg) (SA := SA) (sc := sc) (wt := wt) (mi := mi) (w := V) (hn3 := hn31) (hll := hll) (har := har1) (hwa := hwa1) (hlk := hlk1) (hwt := hw.1) (hmi := hw.2) (HL := HL.later hV) (HS := hns ▸ HS.later hV); rw [hnu, hde] at this; rw [hns]; exact this)
  have kLoa2 : Hid (∀ V, Below w.heap.size w V → Calls Try.prog 10 #[.agg #[.slice Am nm cm, .int .i64 wb, .int .i64 h0, .int .i64 h1, .slice Ac nc cc, .int .i64 wrh], .agg #[.slice SB nt sd, .int .i64 lj], .int .i64 wt, .int .i64 mi] V fun e w' => e = .returned (.tuple #[.int .i64 nun, .int .i64 dem]) ∧ Below V.heap.size V w') := Lib.hid (fun V hV => by have := LoadOf3_c (Al := Am) (cl := cm) (l0 := h0) (l1 := h1) (Ab := Ac) (nb := nc) (cb := cc) (wrg := wrh) (SA := SB) (sc := sd) (wt := wt) (mi := mi) (w := V) (hn3 := hn32) (hll := hmm) (har := har2) (hwa := hwa2) (hlk := hlk2) (hwt := hw.1) (hmi := hw.2) (HL := HM.later hV) (HS := hnt ▸ HT.later hV); rw [hnv, hdf] at this; rw [hnt]; exact this)
  rw [hnu] at hp1 hd1 hd2
  rw [hde] at hd1 hd2 hd3 hdB1
  rw [hnv] at hp2 hx1 hx2
  rw [hdf] at hx1 hx2 hx3 hdB2
  have kE1 := fun V => errorOf_c num den nom V hp1 ⟨hd3, hdB1⟩ (by omega)
  have kE2 := fun V => errorOf_c nun dem nom V hp2 ⟨hx3, hdB2⟩ (by omega)
  have ha := err_own hd3 (show 1 ≤ nom by omega) hd1 hd2
  have hb := err_own hx3 (show 1 ≤ nom by omega) hx1 hx2
  obtain ⟨p0, hp0⟩ : ∃ x, (s0 - nom) * 1000 / nom = x := ⟨_, rfl⟩
  obtain ⟨p1, hp1'⟩ : ∃ x, -((nom - s1) * 1000 / nom) = x := ⟨_, rfl⟩
  obtain ⟨q0, hq0⟩ : ∃ x, (t0 - nom) * 1000 / nom = x := ⟨_, rfl⟩
  obtain ⟨q1, hq1⟩ : ∃ x, -((nom - t1) * 1000 / nom) = x := ⟨_, rfl⟩
  obtain ⟨a, ha'⟩ : ∃ x, (num - nom * den) * 1000 / (nom * den) = x := ⟨_, rfl⟩
  obtain ⟨b, hb'⟩ : ∃ x, (nun - nom * dem) * 1000 / (nom * dem) = x := ⟨_, rfl⟩
  rw [ha'] at kE1
  rw [hb'] at kE2
  rw [hp0, hp1'] at kO1
  rw [hq0, hq1] at kO2
  rw [hp0, hp1', ha'] at ha
  rw [hq0, hq1, hb'] at hb
  have kOwn1 := Lib.hid kO1
  have kOwn2 := Lib.hid kO2
  have kErr1 := Lib.hid kE1
  have kErr2 := Lib.hid kE2
  clear kO1 kO2 kE1 kE2 e0 e1 e2 f0 f1 f2 hs ht hd1 hd2 hd3 hx1 hx2 hx3 hA1 hA2 har1 har2 hlk1 hlk2 hn31 hn32 hwa1 hwa2 hdB1 hdB2 hw hab1 hab2 hp1 hp2 hnu hde hnv hdf hns hnt hp0 hp1' hq0 hq1 ha' hb' hk1 hk2 ht1 ht2 hak HL HB HM HC HS HT hll hbl hmm hbm hus hut
  have d1 : decide (a < p0) = false := decide_eq_false (by omega)
  have d2 : decide (p1 < a) = false := decide_eq_false (by omega)
  have d3 : decide (b < q0) = false := decide_eq_false (by omega)
  have d4 : decide (q1 < b) = false := decide_eq_false (by omega)
  go_enter Try.func3, Try.ntmps3
  go_upto_region 1 with (fail)
  go_name_world X hX
  have B0 : Hid (Below w.heap.size w X) := Lib.hid (al3 hX).1
  have HP0 : Hid (Blk X w.heap.size 27 #[Value.slice Al nl cl, .int .i64 wa, .int .i64 l0, .int .i64 l1, .slice Ab nb cb, .int .i64 wrg]) := by rw [← hX]; exact Lib.hid (((Blk.new w _ _).alloc _).alloc _)
  have HQ0 : Hid (Blk X (w.heap.size + 1) 32 #[Value.slice Am nm cm, .int .i64 wb, .int .i64 h0, .int .i64 h1, .slice Ac nc cc, .int .i64 wrh, .slice SA ns sc, .int .i64 lk, .slice SB nt sd, .int .i64 lj]) := by rw [← hX]; exact Lib.hid ((Blk.new' (by simp) _ _).alloc _)
  have HR0 : Hid (Blk X (w.heap.size + 1 + 1) 34 #[Value.int .i64 wt, .int .i64 mi, .int .i64 nom]) := by rw [← hX]; exact Lib.hid (Blk.new' (by simp) _ _)
  have cP0 := HP0.out.cell
  have mP0 := HP0.out.lt
  have cQ0 := HQ0.out.cell
  have mQ0 := HQ0.out.lt
  have cR0 := HR0.out.cell
  have mR0 := HR0.out.lt
  clear hX
  go_upto_region 4 with (first | (go_at_call 4; (with_reducible refine (kFar1.out X B0.out).mono ?_); (rintro e v1 ⟨rfl, hb⟩); (have HP1 := Lib.hid (HP0.out.below hb HP0.out.lt)); (have cP1 := HP1.out.cell); (have mP1 := HP1.out.lt); (have HQ1 := Lib.hid (HQ0.out.below hb HQ0.out.lt)); (have cQ1 := HQ1.out.cell); (have mQ1 := HQ1.out.lt); (have HR1 := Lib.hid (HR0.out.below hb HR0.out.lt)); (have cR1 := HR1.out.cell); (have mR1 := HR1.out.lt); (have B1 := Lib.hid (B0.out.trans (hb.mono B0.out.size))); clear hb cP0 mP0 cQ0 mQ0 cR0 mR0) | (go_at_call 4; (with_reducible refine (kFar2.out v1 B1.out).mono ?_); (rintro e v2 ⟨rfl, hb⟩); (have HP2 := Lib.hid (HP1.out.below hb HP1.out.lt)); (have cP2 := HP2.out.cell); (have mP2 := HP2.out.lt); (have HQ2 := Lib.hid (HQ1.out.below hb HQ1.out.lt)); (have cQ2 := HQ2.out.cell); (have mQ2 := HQ2.out.lt); (have HR2 := Lib.hid (HR1.out.below hb HR1.out.lt)); (have cR2 := HR2.out.cell); (have mR2 := HR2.out.lt); (have B2 := Lib.hid (B1.out.trans (hb.mono B1.out.size))); clear hb cP1 mP1 cQ1 mQ1 cR1 mR1) | (go_at_call 5; (with_reducible refine (kChk1.out v2 B2.out).mono ?_); (rintro e v3 ⟨rfl, hb⟩); (have HP3 := Lib.hid (HP2.out.below hb HP2.out.lt)); (have cP3 := HP3.out.cell); (have mP3 := HP3.out.lt); (have HQ3 := Lib.hid (HQ2.out.below hb HQ2.out.lt)); (have cQ3 := HQ3.out.cell); (have mQ3 := HQ3.out.lt); (have HR3 := Lib.hid (HR2.out.below hb HR2.out.lt)); (have cR3 := HR3.out.cell); (have mR3 := HR3.out.lt); (have B3 := Lib.hid (B2.out.trans (hb.mono B2.out.size))); clear hb cP2 mP2 cQ2 mQ2 cR2 mR2) | (go_at_call 5; (with_reducible refine (kChk2.out v3 B3.out).mono ?_); (rintro e v4 ⟨rfl, hb⟩); (have HP4 := Lib.hid (HP3.out.below hb HP3.out.lt)); (have cP4 := HP4.out.cell); (have mP4 := HP4.out.lt); (have HQ4 := Lib.hid (HQ3.out.below hb HQ3.out.lt)); (have cQ4 := HQ4.out.cell); (have mQ4 := HQ4.out.lt); (have HR4 := Lib.hid (HR3.out.below hb HR3.out.lt)); (have cR4 := HR4.out.cell); (have mR4 := HR4.out.lt); (have B4 := Lib.hid (B3.out.trans (hb.mono B3.out.size))); clear hb cP3 mP3 cQ3 mQ3 cR3 mR3) | (go_at_call 6; (with_reducible refine (kTru1.out v4 B4.out).mono ?_); (rintro e v5 ⟨rfl, hb⟩); (have HP5 := Lib.hid (HP4.out.below hb HP4.out.lt)); (have cP5 := HP5.out.cell); (have mP5 := HP5.out.lt); (have HQ5 := Lib.hid (HQ4.out.below hb HQ4.out.lt)); (have cQ5 := HQ5.out.cell); (have mQ5 := HQ5.out.lt); (have HR5 := Lib.hid (HR4.out.below hb HR4.out.lt)); (have cR5 := HR5.out.cell); (have mR5 := HR5.out.lt); (have B5 := Lib.hid (B4.out.trans (hb.mono B4.out.size))); clear hb cP4 mP4 cQ4 mQ4 cR4 mR4) | (go_at_call 6; (with_reducible refine (kTru2.out v5 B5.out).mono ?_); (rintro e v6 ⟨rfl, hb⟩); (have HP6 := Lib.hid (HP5.out.below hb HP5.out.lt)); (have cP6 := HP6.out.cell); (have mP6 := HP6.out.lt); (have HQ6 := Lib.hid (HQ5.out.below hb HQ5.out.lt)); (have cQ6 := HQ6.out.cell); (have mQ6 := HQ6.out.lt); (have HR6 := Lib.hid (HR5.out.below hb HR5.out.lt)); (have cR6 := HR6.out.cell); (have mR6 := HR6.out.lt); (have B6 := Lib.hid (B5.out.trans (hb.mono B5.out.size))); clear hb cP5 mP5 cQ5 mQ5 cR5 mR5) | (go_at_call 7; (with_reducible refine (kAsk.out _).mono ?_); (rintro e v0 ⟨rfl, rfl⟩)) | (go_at_call 9; (with_reducible refine (kOwn1.out v6 B6.out).mono ?_); (rintro e v7 ⟨rfl, hb⟩); (have HP7 := Lib.hid (HP6.out.below hb HP6.out.lt)); (have cP7 := HP7.out.cell); (have mP7 := HP7.out.lt); (have HQ7 := Lib.hid (HQ6.out.below hb HQ6.out.lt)); (have cQ7 := HQ7.out.cell); (have mQ7 := HQ7.out.lt); (have HR7 := Lib.hid (HR6.out.below hb HR6.out.lt)); (have cR7 := HR7.out.cell); (have mR7 := HR7.out.lt); (have B7 := Lib.hid (B6.out.trans (hb.mono B6.out.size))); clear hb cP6 mP6 cQ6 mQ6 cR6 mR6))
  obtain ⟨gS, hgS⟩ : ∃ x, v7.heap.size = x := ⟨_, rfl⟩
  go_name_world V hV
  have BV := (al1 hV).1
  have HS8 : Hid (Blk V v7.heap.size 24 #[.int .i64 p0, .int .i64 p1]) := by rw [← hV]; exact Lib.hid (Blk.new _ _ _)
  rw [hgS] at HS8 ⊢
  have HP8 := Lib.hid (HP7.out.below BV HP7.out.lt)
  have HQ8 := Lib.hid (HQ7.out.below BV HQ7.out.lt)
  have HR8 := Lib.hid (HR7.out.below BV HR7.out.lt)
  have B8 := Lib.hid (B7.out.trans (BV.mono B7.out.size))
  have cP8 := HP8.out.cell
  have mP8 := HP8.out.lt
  have cQ8 := HQ8.out.cell
  have mQ8 := HQ8.out.lt
  have cR8 := HR8.out.cell
  have mR8 := HR8.out.lt
  have cS8 := HS8.out.cell
  have mS8 := HS8.out.lt
  clear hV BV hgS cP7 mP7 cQ7 mQ7 cR7 mR7
  go_upto_region 5 with (go_at_call 9; (with_reducible refine (kOwn2.out V B8.out).mono ?_); (rintro e v9 ⟨rfl, hb⟩); (have HP9 := Lib.hid (HP8.out.below hb HP8.out.lt)); (have cP9 := HP9.out.cell); (have mP9 := HP9.out.lt); (have HQ9 := Lib.hid (HQ8.out.below hb HQ8.out.lt)); (have cQ9 := HQ9.out.cell); (have mQ9 := HQ9.out.lt); (have HR9 := Lib.hid (HR8.out.below hb HR8.out.lt)); (have cR9 := HR9.out.cell); (have mR9 := HR9.out.lt); (have HS9 := Lib.hid (HS8.out.below hb HS8.out.lt)); (have cS9 := HS9.out.cell); (have mS9 := HS9.out.lt); (have B9 := Lib.hid (B8.out.trans (hb.mono B8.out.size))); clear hb cP8 mP8 cQ8 mQ8 cR8 mR8 cS8 mS8)
  obtain ⟨gT, hgT⟩ : ∃ x, v9.heap.size = x := ⟨_, rfl⟩
  go_name_world U hU
  have BU := (al1 hU).1
  have HT10 : Hid (Blk U v9.heap.size 24 #[.int .i64 q0, .int .i64 q1]) := by rw [← hU]; exact Lib.hid (Blk.new _ _ _)
  rw [hgT] at HT10 ⊢
  have HP10 := Lib.hid (HP9.out.below BU HP9.out.lt)
  have HQ10 := Lib.hid (HQ9.out.below BU HQ9.out.lt)
  have HR10 := Lib.hid (HR9.out.below BU HR9.out.lt)
  have HS10 := Lib.hid (HS9.out.below BU HS9.out.lt)
  have B10 := Lib.hid (B9.out.trans (BU.mono B9.out.size))
  have cP10 := HP10.out.cell
  have mP10 := HP10.out.lt
  have cQ10 := HQ10.out.cell
  have mQ10 := HQ10.out.lt
  have cR10 := HR10.out.cell
  have mR10 := HR10.out.lt
  have cS10 := HS10.out.cell
  have mS10 := HS10.out.lt
  have cT10 := HT10.out.cell
  have mT10 := HT10.out.lt
  clear hU BU hgT cP9 mP9 cQ9 mQ9 cR9 mR9 cS9 mS9
  go_upto_region 6 with (go_at_call 10; (with_reducible refine (kLoa1.out U B10.out).mono ?_); (rintro e v11 ⟨rfl, hb⟩); (have HP11 := Lib.hid (HP10.out.below hb HP10.out.lt)); (have cP11 := HP11.out.cell); (have mP11 := HP11.out.lt); (have HQ11 := Lib.hid (HQ10.out.below hb HQ10.out.lt)); (have cQ11 := HQ11.out.cell); (have mQ11 := HQ11.out.lt); (have HR11 := Lib.hid (HR10.out.below hb HR10.out.lt)); (have cR11 := HR11.out.cell); (have mR11 := HR11.out.lt); (have HS11 := Lib.hid (HS10.out.below hb HS10.out.lt)); (have cS11 := HS11.out.cell); (have mS11 := HS11.out.lt); (have HT11 := Lib.hid (HT10.out.below hb HT10.out.lt)); (have cT11 := HT11.out.cell); (have mT11 := HT11.out.lt); (have B11 := Lib.hid (B10.out.trans (hb.mono B10.out.size))); clear hb cP10 mP10 cQ10 mQ10 cR10 mR10 cS10 mS10 cT10 mT10)
  go_upto_region 7 with (go_at_call 11; (refine (kErr1.out _).mono ?_); (rintro e v0 ⟨rfl, rfl⟩))
  go_upto_region 8 with (go_at_call 10; (with_reducible refine (kLoa2.out v11 B11.out).mono ?_); (rintro e v12 ⟨rfl, hb⟩); (have HP12 := Lib.hid (HP11.out.below hb HP11.out.lt)); (have cP12 := HP12.out.cell); (have mP12 := HP12.out.lt); (have HQ12 := Lib.hid (HQ11.out.below hb HQ11.out.lt)); (have cQ12 := HQ12.out.cell); (have mQ12 := HQ12.out.lt); (have HR12 := Lib.hid (HR11.out.below hb HR11.out.lt)); (have cR12 := HR12.out.cell); (have mR12 := HR12.out.lt); (have HS12 := Lib.hid (HS11.out.below hb HS11.out.lt)); (have cS12 := HS12.out.cell); (have mS12 := HS12.out.lt); (have HT12 := Lib.hid (HT11.out.below hb HT11.out.lt)); (have cT12 := HT12.out.cell); (have mT12 := HT12.out.lt); (have B12 := Lib.hid (B11.out.trans (hb.mono B11.out.size))); clear hb cP11 mP11 cQ11 mQ11 cR11 mR11 cS11 mS11 cT11 mT11)
  go_upto_region 11 with (go_at_call 11; (refine (kErr2.out _).mono ?_); (rintro e v0 ⟨rfl, rfl⟩))
  clear kFar1 kFar2 kChk1 kChk2 kTru1 kTru2 kAsk kOwn1 kOwn2 kLoa1 kLoa2 kErr1 kErr2
  by_cases g1 : min p0 q0 < -60
  · have gB : decide (min p0 q0 < -60) = true := decide_eq_true g1
    go_wp2_with (go_at_call 8; refine (compared_c _).mono ?_; (rintro e v99 ⟨rfl, hb99⟩); (have B99 := Lib.hid (B12.out.trans (hb99.mono B12.out.size))); clear hb99)
    go_ret
    exact ⟨rfl, B99.out⟩
  have g1B : decide (min p0 q0 < -60) = false := decide_eq_false g1
  by_cases g2 : 60 < max p1 q1
  · have gB : decide (60 < max p1 q1) = true := decide_eq_true g2
    go_wp2_with (go_at_call 8; refine (compared_c _).mono ?_; (rintro e v99 ⟨rfl, hb99⟩); (have B99 := Lib.hid (B12.out.trans (hb99.mono B12.out.size))); clear hb99)
    go_ret
    exact ⟨rfl, B99.out⟩
  have g2B : decide (60 < max p1 q1) = false := decide_eq_false g2
  have hs : -60 ≤ p0 ∧ p1 ≤ 60 := by omega
  have ht : -60 ≤ q0 ∧ q1 ≤ 60 := by omega
  have vab : IntKind.i64.wrap (a - b) = a - b := IntWalk.i64_in _ (by omega)
  go_upto_region 14 with (fail)
  obtain ⟨gY, hgY⟩ : ∃ x, v12.heap.size = x := ⟨_, rfl⟩
  go_name_world Y hY
  have BY := (al3 hY).1
  have HY13 : Hid (Blk Y (v12.heap.size + 1 + 1) 51 #[.slice (some ⟨v12.heap.size, 0, none⟩) 2 2, .slice (some ⟨v12.heap.size + 1, 0, none⟩) 1 1, .int .i64 0]) := by rw [← hY]; exact Lib.hid (Blk.new' (by simp) _ _)
  have M13 : Hid (SpsAt Y (some ⟨v12.heap.size, 0, none⟩) 2 (yMs p0 p1 q0 q1)) := by
    rw [← hY]
    exact Lib.hid (SpsAt.later (sps_iff.2 (sl_new (d := (⟨0, 0⟩ : Sp)) encS_len rfl rfl rfl)) (((Below.refl _ _).alloc (Nat.le_refl _) _).alloc (by simp) _))
  have C13 : Hid (CmsAt Y (some ⟨v12.heap.size + 1, 0, none⟩) 1 (yCs (a - b))) := by
    rw [← hY]
    exact Lib.hid (CmsAt.later (show CmsAt _ _ _ _ from sl_new (d := (⟨0, 0, 0, 0⟩ : Cm5)) encC5_len (by simp) rfl rfl) ((Below.refl _ _).alloc (Nat.le_refl _) _))
  have B13 := Lib.hid (B12.out.trans (BY.mono B12.out.size))
  rw [hgY] at HY13 M13 C13 ⊢
  have cY13 := HY13.out.cell
  have mY13 := HY13.out.lt
  clear hY BY hgY cP12 mP12 cQ12 mQ12 cR12 mR12 cS12 mS12 cT12 mT12
  have hck := y_ck hs ht ha hb
  have hne := y_ne hs ht ha hb
  have y0 := y_e0 hs ht ha hb
  have y1 := y_e1 hs ht ha hb
  have y2 := y_d hs ht ha hb
  have kFew := Lib.hid (fun V (hm : SpsAt V (some ⟨gY, 0, none⟩) 2 (yMs p0 p1 q0 q1)) (hc : CmsAt V (some ⟨gY + 1, 0, none⟩) 1 (yCs (a - b))) => Fewest5_c (some ⟨gY, 0, none⟩) 2 2 (some ⟨gY + 1, 0, none⟩) 1 1 0 (yMs p0 p1 q0 q1) (yCs (a - b)) V (by omega) hm hc hck (y_cl hs ht ha hb))
  have kEr0 := fun V (hm : SpsAt V (some ⟨gY, 0, none⟩) 2 (yMs p0 p1 q0 q1)) (hc : CmsAt V (some ⟨gY + 1, 0, none⟩) 1 (yCs (a - b))) => Errors_c (some ⟨gY, 0, none⟩) 2 2 (some ⟨gY + 1, 0, none⟩) 1 1 0 (yMs p0 p1 q0 q1) (yCs (a - b)) 0 V (by omega) hm hc hck hne
  have kEr1 := fun V (hm : SpsAt V (some ⟨gY, 0, none⟩) 2 (yMs p0 p1 q0 q1)) (hc : CmsAt V (some ⟨gY + 1, 0, none⟩) 1 (yCs (a - b))) => Errors_c (some ⟨gY, 0, none⟩) 2 2 (some ⟨gY + 1, 0, none⟩) 1 1 0 (yMs p0 p1 q0 q1) (yCs (a - b)) 1 V (by omega) hm hc hck hne
  have kDif := fun V (hm : SpsAt V (some ⟨gY, 0, none⟩) 2 (yMs p0 p1 q0 q1)) (hc : CmsAt V (some ⟨gY + 1, 0, none⟩) 1 (yCs (a - b))) => Differ_c (some ⟨gY, 0, none⟩) 2 2 (some ⟨gY + 1, 0, none⟩) 1 1 0 (yMs p0 p1 q0 q1) (yCs (a - b)) 0 1 V (by omega) (by omega) hm hc hck hne
  have kSur := Lib.hid (fun V (hm : SpsAt V (some ⟨gY, 0, none⟩) 2 (yMs p0 p1 q0 q1)) (hc : CmsAt V (some ⟨gY + 1, 0, none⟩) 1 (yCs (a - b))) => Sure_c (some ⟨gY, 0, none⟩) 2 2 (some ⟨gY + 1, 0, none⟩) 1 1 0 (yMs p0 p1 q0 q1) (yCs (a - b)) V hm hc hck hne (y_no hs ht ha hb))
  obtain ⟨d, hd⟩ : ∃ d, a - b = d := ⟨_, rfl⟩
  rw [y2, hd] at kDif
  rw [hd] at kEr0 kEr1 kFew kSur C13 y0 y1 vab
  try rw [hd]
  obtain ⟨⟨u0, u1⟩, hu⟩ : ∃ x, dfR (trT 2 (yMs p0 p1 q0 q1) (yCs (d))) 0 2 (trsY 2 1 (yMs p0 p1 q0 q1) (yCs (d)) 0) = x := ⟨_, rfl⟩
  obtain ⟨⟨e0, e1⟩, he⟩ : ∃ x, dfR (trT 2 (yMs p0 p1 q0 q1) (yCs (d))) 1 2 (trsY 2 1 (yMs p0 p1 q0 q1) (yCs (d)) 0) = x := ⟨_, rfl⟩
  rw [hu] at kEr0 y0
  rw [he] at kEr1 y1
  simp only at y0 y1
  have kDif1 : Hid (∀ V, SpsAt V (some ⟨gY, 0, none⟩) 2 (yMs p0 p1 q0 q1) → CmsAt V (some ⟨gY + 1, 0, none⟩) 1 (yCs d) → Calls Try.prog 14 #[.agg #[.slice (some ⟨gY, 0, none⟩) 2 2, .slice (some ⟨gY + 1, 0, none⟩) 1 1, .int .i64 0], .int .i64 0, .int .i64 1] V fun e w' => e = .returned (.tuple #[.agg #[.int .i64 d, .int .i64 d], .int .i64 0]) ∧ Below V.heap.size V w') := Lib.hid kDif
  have kEr01 : Hid (∀ V, SpsAt V (some ⟨gY, 0, none⟩) 2 (yMs p0 p1 q0 q1) → CmsAt V (some ⟨gY + 1, 0, none⟩) 1 (yCs d) → Calls Try.prog 13 #[.agg #[.slice (some ⟨gY, 0, none⟩) 2 2, .slice (some ⟨gY + 1, 0, none⟩) 1 1, .int .i64 0], .int .i64 0] V fun e w' => e = .returned (.tuple #[.agg #[.int .i64 u0, .int .i64 u1], .int .i64 0]) ∧ Below V.heap.size V w') := Lib.hid kEr0
  have kEr11 : Hid (∀ V, SpsAt V (some ⟨gY, 0, none⟩) 2 (yMs p0 p1 q0 q1) → CmsAt V (some ⟨gY + 1, 0, none⟩) 1 (yCs d) → Calls Try.prog 13 #[.agg #[.slice (some ⟨gY, 0, none⟩) 2 2, .slice (some ⟨gY + 1, 0, none⟩) 1 1, .int .i64 0], .int .i64 1] V fun e w' => e = .returned (.tuple #[.agg #[.int .i64 e0, .int .i64 e1], .int .i64 0]) ∧ Below V.heap.size V w') := Lib.hid kEr1
  have kSame : Hid (∀ V A B c1 c2, IntsAt V A 1 (rgI 1) → IntsAt V B 1 [0] → Calls Try.prog 16 #[.slice A 1 c1, .slice B 1 c2] V fun e w' => e = .returned (.bool true) ∧ Below V.heap.size V w') := Lib.hid (fun V A B c1 c2 h1 h2 => SameInts_c A B 1 1 c1 c2 (rgI 1) [0] V (by omega) (by omega) h1 h2)
  have w1 : decide (u0 ≤ a) = true := decide_eq_true (by omega)
  have w2 : decide (a ≤ u1) = true := decide_eq_true (by omega)
  have w3 : decide (e0 ≤ b) = true := decide_eq_true (by omega)
  have w4 : decide (b ≤ e1) = true := decide_eq_true (by omega)
  clear kDif kEr0 kEr1 hu he hck hne y0 y1 y2 hs ht g1 g2
  go_upto_region 15 with (go_at_call 12; (with_reducible refine (kFew.out Y M13.out C13.out).mono ?_); (rintro e v14 ⟨rfl, hb⟩); (have HY14 := Lib.hid (HY13.out.below hb HY13.out.lt)); (have cY14 := HY14.out.cell); (have mY14 := HY14.out.lt); (have M14 := Lib.hid (M13.out.later hb)); (have C14 := Lib.hid (C13.out.later hb)); (have B14 := Lib.hid (B13.out.trans (hb.mono B13.out.size))); clear hb cY13 mY13)
  go_upto_region 16 with (go_at_call 13; (with_reducible refine (kEr01.out v14 M14.out C14.out).mono ?_); (rintro e v15 ⟨rfl, hb⟩); (have HY15 := Lib.hid (HY14.out.below hb HY14.out.lt)); (have cY15 := HY15.out.cell); (have mY15 := HY15.out.lt); (have M15 := Lib.hid (M14.out.later hb)); (have C15 := Lib.hid (C14.out.later hb)); (have B15 := Lib.hid (B14.out.trans (hb.mono B14.out.size))); clear hb cY14 mY14)
  obtain ⟨gU, hgU⟩ : ∃ x, v15.heap.size = x := ⟨_, rfl⟩
  go_name_world W1 hW1
  have BW1 := (al1 hW1).1
  have HU16 : Hid (Blk W1 v15.heap.size 24 #[.int .i64 u0, .int .i64 u1]) := by rw [← hW1]; exact Lib.hid (Blk.new _ _ _)
  rw [hgU] at HU16 ⊢
  have HY16 := Lib.hid (HY15.out.below BW1 HY15.out.lt)
  have M16 := Lib.hid (M15.out.later BW1)
  have C16 := Lib.hid (C15.out.later BW1)
  have B16 := Lib.hid (B15.out.trans (BW1.mono B15.out.size))
  have cY16 := HY16.out.cell
  have mY16 := HY16.out.lt
  have cU16 := HU16.out.cell
  have mU16 := HU16.out.lt
  clear hW1 BW1 hgU cY15 mY15
  go_upto_region 17 with (go_at_call 13; (with_reducible refine (kEr11.out W1 M16.out C16.out).mono ?_); (rintro e v17 ⟨rfl, hb⟩); (have HY17 := Lib.hid (HY16.out.below hb HY16.out.lt)); (have cY17 := HY17.out.cell); (have mY17 := HY17.out.lt); (have HU17 := Lib.hid (HU16.out.below hb HU16.out.lt)); (have cU17 := HU17.out.cell); (have mU17 := HU17.out.lt); (have M17 := Lib.hid (M16.out.later hb)); (have C17 := Lib.hid (C16.out.later hb)); (have B17 := Lib.hid (B16.out.trans (hb.mono B16.out.size))); clear hb cY16 mY16 cU16 mU16)
  obtain ⟨gE, hgE⟩ : ∃ x, v17.heap.size = x := ⟨_, rfl⟩
  go_name_world W2 hW2
  have BW2 := (al1 hW2).1
  have HE18 : Hid (Blk W2 v17.heap.size 24 #[.int .i64 e0, .int .i64 e1]) := by rw [← hW2]; exact Lib.hid (Blk.new _ _ _)
  rw [hgE] at HE18 ⊢
  have HY18 := Lib.hid (HY17.out.below BW2 HY17.out.lt)
  have HU18 := Lib.hid (HU17.out.below BW2 HU17.out.lt)
  have M18 := Lib.hid (M17.out.later BW2)
  have C18 := Lib.hid (C17.out.later BW2)
  have B18 := Lib.hid (B17.out.trans (BW2.mono B17.out.size))
  have cY18 := HY18.out.cell
  have mY18 := HY18.out.lt
  have cU18 := HU18.out.cell
  have mU18 := HU18.out.lt
  have cE18 := HE18.out.cell
  have mE18 := HE18.out.lt
  clear hW2 BW2 hgE cY17 mY17 cU17 mU17
  go_upto_region 18 with (go_at_call 14; (with_reducible refine (kDif1.out W2 M18.out C18.out).mono ?_); (rintro e v19 ⟨rfl, hb⟩); (have HY19 := Lib.hid (HY18.out.below hb HY18.out.lt)); (have cY19 := HY19.out.cell); (have mY19 := HY19.out.lt); (have HU19 := Lib.hid (HU18.out.below hb HU18.out.lt)); (have cU19 := HU19.out.cell); (have mU19 := HU19.out.lt); (have HE19 := Lib.hid (HE18.out.below hb HE18.out.lt)); (have cE19 := HE19.out.cell); (have mE19 := HE19.out.lt); (have M19 := Lib.hid (M18.out.later hb)); (have C19 := Lib.hid (C18.out.later hb)); (have B19 := Lib.hid (B18.out.trans (hb.mono B18.out.size))); clear hb cY18 mY18 cU18 mU18 cE18 mE18)
  obtain ⟨gD, hgD⟩ : ∃ x, v19.heap.size = x := ⟨_, rfl⟩
  go_name_world W3 hW3
  have BW3 := (al1 hW3).1
  have HD20 : Hid (Blk W3 v19.heap.size 24 #[.int .i64 d, .int .i64 d]) := by rw [← hW3]; exact Lib.hid (Blk.new _ _ _)
  rw [hgD] at HD20 ⊢
  have HY20 := Lib.hid (HY19.out.below BW3 HY19.out.lt)
  have HU20 := Lib.hid (HU19.out.below BW3 HU19.out.lt)
  have HE20 := Lib.hid (HE19.out.below BW3 HE19.out.lt)
  have M20 := Lib.hid (M19.out.later BW3)
  have C20 := Lib.hid (C19.out.later BW3)
  have B20 := Lib.hid (B19.out.trans (BW3.mono B19.out.size))
  have cY20 := HY20.out.cell
  have mY20 := HY20.out.lt
  have cU20 := HU20.out.cell
  have mU20 := HU20.out.lt
  have cE20 := HE20.out.cell
  have mE20 := HE20.out.lt
  have cD20 := HD20.out.cell
  have mD20 := HD20.out.lt
  clear hW3 BW3 hgD cY19 mY19 cU19 mU19 cE19 mE19
  go_upto_region 19 with (go_at_call 15; (with_reducible refine (kSur.out W3 M20.out C20.out).mono ?_); (rintro e v21 ⟨L, c9, rfl, hl, hb⟩); (have K21 := Lib.hid hl); clear hl; (have HY21 := Lib.hid (HY20.out.below hb HY20.out.lt)); (have cY21 := HY21.out.cell); (have mY21 := HY21.out.lt); (have HU21 := Lib.hid (HU20.out.below hb HU20.out.lt)); (have cU21 := HU21.out.cell); (have mU21 := HU21.out.lt); (have HE21 := Lib.hid (HE20.out.below hb HE20.out.lt)); (have cE21 := HE21.out.cell); (have mE21 := HE21.out.lt); (have HD21 := Lib.hid (HD20.out.below hb HD20.out.lt)); (have cD21 := HD21.out.cell); (have mD21 := HD21.out.lt); (have M21 := Lib.hid (M20.out.later hb)); (have C21 := Lib.hid (C20.out.later hb)); (have B21 := Lib.hid (B20.out.trans (hb.mono B20.out.size))); clear hb cY20 mY20 cU20 mU20 cE20 mE20 cD20 mD20)
  go_wp2_with (first | (go_at_call 16; (refine (kSame.out _ _ _ _ _ (K21.out.later (by (repeat first | with_reducible assumption | with_reducible exact Below.refl _ _ | (with_reducible refine Below.alloc ?_ ?side _; case side => (first | omega | (with_reducible exact Below.size (by assumption)) | (simp; done) | (simp; omega))) | (with_reducible refine Below.setCell ?_ ?side _; case side => (first | omega | (with_reducible exact Below.size (by assumption)) | (simp; done) | (simp; omega))) | with_reducible refine Below.drew ?_ | with_reducible refine below_drewN ?_ _ | (with_reducible refine below_step (by assumption) ?side ?_; case side => (first | omega | (with_reducible exact Below.size (by assumption)) | (simp; done) | (simp; omega)))))) (ints_iff.2 (sl_new (d := (0 : Int)) encI_len rfl rfl rfl))).mono ?_); (rintro e v98 ⟨rfl, hb98⟩); (have B98 := Lib.hid (B21.out.trans (Below.trans (b := v21.alloc (.cells #[.int .i64 0] 3)) ((Below.refl _ _).alloc (Nat.le_refl _) _) (hb98.mono (by simp)) |>.mono B21.out.size))); clear hb98) | (go_at_call 8; refine (compared_c _).mono ?_; (rintro e v99 ⟨rfl, hb99⟩); (have B99 := Lib.hid (B98.out.trans (hb99.mono B98.out.size))); clear hb99))
  go_ret
  exact ⟨rfl, B99.out⟩

end Go.Proofs.Ytcinhibmohkeiaa
