/- TopYard walked where both machines are valid. -/
import Derived.Test.YtcinhibmohkeiaaQy46
import Derived.Shelf.Abstract
import Derived.Laws.EntriesVeiled
import Derived.Handy
import Derived.Deep.DrawnRows
import Derived.Deep.DeepCutAuto
namespace Go.Proofs.Ytcinhibmohkeiaa
open Go.RowKit
open Go.Sort (grow)
set_option linter.unusedVariables false
set_option linter.unusedSimpArgs false

set_option maxRecDepth 100000 in
set_option maxHeartbeats 6400000 in
theorem topyard_mid (Al : Option Addr) (nl cl : Nat) (wa l0 l1 : Int) (Ab : Option Addr) (nb cb : Nat) (wrg : Int) (lv : List Lv) (bl : List Bal) (Am : Option Addr) (nm cm : Nat) (wb h0 h1 : Int) (Ac : Option Addr) (nc cc : Nat) (wrh : Int) (lu : List Lv) (bm : List Bal) (SA : Option Addr) (ns sc : Nat) (us : List Int) (lk : Int) (SB : Option Addr) (nt sd : Nat) (ut : List Int) (lj : Int) (wt mi nom : Int) (w : World) (HL : LvsAt w Al nl lv) (HB : BasAt w Ab nb bl) (HM : LvsAt w Am nm lu) (HC : BasAt w Ac nc bm) (HS : IntsAt w SA ns us) (HT : IntsAt w SB nt ut) (hf1 : far3 nl nb wa l0 l1 wrg lv bl = false) (hf2 : far3 nm nc wb h0 h1 wrh lu bm = false) (hk1 : ckM nl nb wa l0 l1 wrg lv bl = true) (hk2 : ckM nm nc wb h0 h1 wrh lu bm = true) (g40 : ¬ (40 : Int) < ns) (g41 : ¬ (40 : Int) < nt) :
    Calls Try.prog 3 #[.agg #[.slice Al nl cl, .int .i64 wa, .int .i64 l0, .int .i64 l1, .slice Ab nb cb, .int .i64 wrg], .agg #[.slice Am nm cm, .int .i64 wb, .int .i64 h0, .int .i64 h1, .slice Ac nc cc, .int .i64 wrh, .slice SA ns sc, .int .i64 lk, .slice SB nt sd, .int .i64 lj], .agg #[.int .i64 wt, .int .i64 mi, .int .i64 nom]] w fun e w' => e = .returned (.bool true) ∧ Below w.heap.size w w' := by
  have hf1k := hf1
  have hf2k := hf2
  have hll := HL.1
  have hbl := HB.1
  have hmm := HM.1
  have hbm := HC.1
  have hus := HS.1
  have hut := HT.1
  have kF1 := fun V (hV : Below w.heap.size w V) => Far3_c Al nl cl wa l0 l1 Ab nb cb wrg lv bl V (HL.later hV) (HB.later hV)
  have kF2 := fun V (hV : Below w.heap.size w V) => Far3_c Am nm cm wb h0 h1 Ac nc cc wrh lu bm V (HM.later hV) (HC.later hV)
  rw [hf1] at kF1
  have kFar1 := Lib.hid kF1
  obtain ⟨hn40, hb40⟩ := far3_no hf1
  clear kF1
  rw [hf2] at kF2
  have kFar2 := Lib.hid kF2
  obtain ⟨hm40, hc40⟩ := far3_no hf2
  clear kF2 hf1 hf2
  have kC1 := fun V (hV : Below w.heap.size w V) => refCheck3_c Al nl cl wa l0 l1 Ab nb cb wrg lv bl V hn40 hb40 (HL.later hV) (HB.later hV)
  have kC2 := fun V (hV : Below w.heap.size w V) => refCheck3_c Am nm cm wb h0 h1 Ac nc cc wrh lu bm V hm40 hc40 (HM.later hV) (HC.later hV)
  have kChk1 : Hid (∀ V, Below w.heap.size w V → Calls Try.prog 5 #[.agg #[.slice Al nl cl, .int .i64 wa, .int .i64 l0, .int .i64 l1, .slice Ab nb cb, .int .i64 wrg]] V fun e w' => e = .returned (.int .i64 0) ∧ Below V.heap.size V w') := Lib.hid (fun V hV => by have := kC1 V hV; rw [hk1] at this; exact this)
  have kChk2 : Hid (∀ V, Below w.heap.size w V → Calls Try.prog 5 #[.agg #[.slice Am nm cm, .int .i64 wb, .int .i64 h0, .int .i64 h1, .slice Ac nc cc, .int .i64 wrh]] V fun e w' => e = .returned (.int .i64 0) ∧ Below V.heap.size V w') := Lib.hid (fun V hV => by have := kC2 V hV; rw [hk2] at this; exact this)
  clear kC1 kC2
  have g40B : decide ((40 : Int) < ns) = false := decide_eq_false g40
  have g41B : decide ((40 : Int) < nt) = false := decide_eq_false g41
  obtain ⟨ok1, hlg1⟩ := okM_of hk1 hll hbl
  obtain ⟨ok2, hlg2⟩ := okM_of hk2 hmm hbm
  have kT1 := fun V (hV : Below w.heap.size w V) => IsTruth3_c (Al := Al) (cl := cl) (Ab := Ab) (cb := cb) (SA := SA) (sc := sc) (lk := lk) (ns := ns) (w := V) (hns := by omega) (ok := ok1) (hlg := hlg1) (HL := HL.later hV) (HB := HB.later hV) (HS := HS.later hV)
  have kT2 := fun V (hV : Below w.heap.size w V) => IsTruth3_c (Al := Am) (cl := cm) (Ab := Ac) (cb := cc) (SA := SB) (sc := sd) (lk := lj) (ns := nt) (w := V) (hns := by omega) (ok := ok2) (hlg := hlg2) (HL := HM.later hV) (HB := HC.later hV) (HS := HT.later hV)
  clear ok1 hlg1 ok2 hlg2
  cases ht1 : isT3 nl nb wa l0 l1 wrg (abK lv nl) lv bl us lk
  case false =>
    rw [ht1] at kT1
    have kTru1 := Lib.hid kT1
    clear kT1 kT2 ht1 hk1 hk2 hf1k hf2k g40 g41 HL HB HM HC HS HT hll hbl hmm hbm hus hut
    go_enter Try.func3, Try.ntmps3
    go_upto_region 1 with (fail)
    go_name_world X hX
    have B0 : Hid (Below w.heap.size w X) := Lib.hid (al3 hX).1
    have HP0 : Hid (Blk X w.heap.size 27 #[Value.slice Al nl cl, .int .i64 wa, .int .i64 l0, .int .i64 l1, .slice Ab nb cb, .int .i64 wrg]) := by rw [← hX]; exact Lib.hid (((Blk.new w _ _).alloc _).alloc _)
    have HQ0 : Hid (Blk X (w.heap.size + 1) 32 #[Value.slice Am nm cm, .int .i64 wb, .int .i64 h0, .int .i64 h1, .slice Ac nc cc, .int .i64 wrh, .slice SA ns sc, .int .i64 lk, .slice SB nt sd, .int .i64 lj]) := by rw [← hX]; exact Lib.hid ((Blk.new' (by simp) _ _).alloc _)
    have HR0 : Hid (Blk X (w.heap.size + 1 + 1) 34 #[Value.int .i64 wt, .int .i64 mi, .int .i64 nom]) := by rw [← hX]; exact Lib.hid (Blk.new' (by simp) _ _)
    have cP0 := HP0.out.cell
    have mP0 := HP0.out.lt
    have cQ0 := HQ0.out.cell
    have mQ0 := HQ0.out.lt
    have cR0 := HR0.out.cell
    have mR0 := HR0.out.lt
    clear hX
    go_wp2_with (first | (go_at_call 4; (with_reducible refine (kFar1.out X B0.out).mono ?_); (rintro e v1 ⟨rfl, hb⟩); (have HP1 := Lib.hid (HP0.out.below hb HP0.out.lt)); (have cP1 := HP1.out.cell); (have mP1 := HP1.out.lt); (have HQ1 := Lib.hid (HQ0.out.below hb HQ0.out.lt)); (have cQ1 := HQ1.out.cell); (have mQ1 := HQ1.out.lt); (have HR1 := Lib.hid (HR0.out.below hb HR0.out.lt)); (have cR1 := HR1.out.cell); (have mR1 := HR1.out.lt); (have B1 := Lib.hid (B0.out.trans (hb.mono B0.out.size))); clear hb cP0 mP0 cQ0 mQ0 cR0 mR0) | (go_at_call 4; (with_reducible refine (kFar2.out v1 B1.out).mono ?_); (rintro e v2 ⟨rfl, hb⟩); (have HP2 := Lib.hid (HP1.out.below hb HP1.out.lt)); (have cP2 := HP2.out.cell); (have mP2 := HP2.out.lt); (have HQ2 := Lib.hid (HQ1.out.below hb HQ1.out.lt)); (have cQ2 := HQ2.out.cell); (have mQ2 := HQ2.out.lt); (have HR2 := Lib.hid (HR1.out.below hb HR1.out.lt)); (have cR2 := HR2.out.cell); (have mR2 := HR2.out.lt); (have B2 := Lib.hid (B1.out.trans (hb.mono B1.out.size))); clear hb cP1 mP1 cQ1 mQ1 cR1 mR1) | (go_at_call 5; (with_reducible refine (kChk1.out v2 B2.out).mono ?_); (rintro e v3 ⟨rfl, hb⟩); (have HP3 := Lib.hid (HP2.out.below hb HP2.out.lt)); (have cP3 := HP3.out.cell); (have mP3 := HP3.out.lt); (have HQ3 := Lib.hid (HQ2.out.below hb HQ2.out.lt)); (have cQ3 := HQ3.out.cell); (have mQ3 := HQ3.out.lt); (have HR3 := Lib.hid (HR2.out.below hb HR2.out.lt)); (have cR3 := HR3.out.cell); (have mR3 := HR3.out.lt); (have B3 := Lib.hid (B2.out.trans (hb.mono B2.out.size))); clear hb cP2 mP2 cQ2 mQ2 cR2 mR2) | (go_at_call 5; (with_reducible refine (kChk2.out v3 B3.out).mono ?_); (rintro e v4 ⟨rfl, hb⟩); (have HP4 := Lib.hid (HP3.out.below hb HP3.out.lt)); (have cP4 := HP4.out.cell); (have mP4 := HP4.out.lt); (have HQ4 := Lib.hid (HQ3.out.below hb HQ3.out.lt)); (have cQ4 := HQ4.out.cell); (have mQ4 := HQ4.out.lt); (have HR4 := Lib.hid (HR3.out.below hb HR3.out.lt)); (have cR4 := HR4.out.cell); (have mR4 := HR4.out.lt); (have B4 := Lib.hid (B3.out.trans (hb.mono B3.out.size))); clear hb cP3 mP3 cQ3 mQ3 cR3 mR3) | (go_at_call 6; (with_reducible refine (kTru1.out v4 B4.out).mono ?_); (rintro e v5 ⟨rfl, hb⟩); (have HP5 := Lib.hid (HP4.out.below hb HP4.out.lt)); (have cP5 := HP5.out.cell); (have mP5 := HP5.out.lt); (have HQ5 := Lib.hid (HQ4.out.below hb HQ4.out.lt)); (have cQ5 := HQ5.out.cell); (have mQ5 := HQ5.out.lt); (have HR5 := Lib.hid (HR4.out.below hb HR4.out.lt)); (have cR5 := HR5.out.cell); (have mR5 := HR5.out.lt); (have B5 := Lib.hid (B4.out.trans (hb.mono B4.out.size))); clear hb cP4 mP4 cQ4 mQ4 cR4 mR4) | (go_at_call 8; refine (compared_c _).mono ?_; (rintro e v99 ⟨rfl, hb99⟩); (have B99 := Lib.hid (B5.out.trans (hb99.mono B5.out.size))); clear hb99))
    go_ret
    exact ⟨rfl, B99.out⟩
  case true =>
    rw [ht1] at kT1
    have kTru1 := Lib.hid kT1
    clear kT1
    cases ht2 : isT3 nm nc wb h0 h1 wrh (abK lu nm) lu bm ut lj
    case false =>
      rw [ht2] at kT2
      have kTru2 := Lib.hid kT2
      clear kT2 ht1 ht2 hk1 hk2 HL HB HM HC HS HT hll hbl hmm hbm hus hut
      go_enter Try.func3, Try.ntmps3
      go_upto_region 1 with (fail)
      go_name_world X hX
      have B0 : Hid (Below w.heap.size w X) := Lib.hid (al3 hX).1
      have HP0 : Hid (Blk X w.heap.size 27 #[Value.slice Al nl cl, .int .i64 wa, .int .i64 l0, .int .i64 l1, .slice Ab nb cb, .int .i64 wrg]) := by rw [← hX]; exact Lib.hid (((Blk.new w _ _).alloc _).alloc _)
      have HQ0 : Hid (Blk X (w.heap.size + 1) 32 #[Value.slice Am nm cm, .int .i64 wb, .int .i64 h0, .int .i64 h1, .slice Ac nc cc, .int .i64 wrh, .slice SA ns sc, .int .i64 lk, .slice SB nt sd, .int .i64 lj]) := by rw [← hX]; exact Lib.hid ((Blk.new' (by simp) _ _).alloc _)
      have HR0 : Hid (Blk X (w.heap.size + 1 + 1) 34 #[Value.int .i64 wt, .int .i64 mi, .int .i64 nom]) := by rw [← hX]; exact Lib.hid (Blk.new' (by simp) _ _)
      have cP0 := HP0.out.cell
      have mP0 := HP0.out.lt
      have cQ0 := HQ0.out.cell
      have mQ0 := HQ0.out.lt
      have cR0 := HR0.out.cell
      have mR0 := HR0.out.lt
      clear hX
      go_wp2_with (first | (go_at_call 4; (with_reducible refine (kFar1.out X B0.out).mono ?_); (rintro e v1 ⟨rfl, hb⟩); (have HP1 := Lib.hid (HP0.out.below hb HP0.out.lt)); (have cP1 := HP1.out.cell); (have mP1 := HP1.out.lt); (have HQ1 := Lib.hid (HQ0.out.below hb HQ0.out.lt)); (have cQ1 := HQ1.out.cell); (have mQ1 := HQ1.out.lt); (have HR1 := Lib.hid (HR0.out.below hb HR0.out.lt)); (have cR1 := HR1.out.cell); (have mR1 := HR1.out.lt); (have B1 := Lib.hid (B0.out.trans (hb.mono B0.out.size))); clear hb cP0 mP0 cQ0 mQ0 cR0 mR0) | (go_at_call 4; (with_reducible refine (kFar2.out v1 B1.out).mono ?_); (rintro e v2 ⟨rfl, hb⟩); (have HP2 := Lib.hid (HP1.out.below hb HP1.out.lt)); (have cP2 := HP2.out.cell); (have mP2 := HP2.out.lt); (have HQ2 := Lib.hid (HQ1.out.below hb HQ1.out.lt)); (have cQ2 := HQ2.out.cell); (have mQ2 := HQ2.out.lt); (have HR2 := Lib.hid (HR1.out.below hb HR1.out.lt)); (have cR2 := HR2.out.cell); (have mR2 := HR2.out.lt); (have B2 := Lib.hid (B1.out.trans (hb.mono B1.out.size))); clear hb cP1 mP1 cQ1 mQ1 cR1 mR1) | (go_at_call 5; (with_reducible refine (kChk1.out v2 B2.out).mono ?_); (rintro e v3 ⟨rfl, hb⟩); (have HP3 := Lib.hid (HP2.out.below hb HP2.out.lt)); (have cP3 := HP3.out.cell); (have mP3 := HP3.out.lt); (have HQ3 := Lib.hid (HQ2.out.below hb HQ2.out.lt)); (have cQ3 := HQ3.out.cell); (have mQ3 := HQ3.out.lt); (have HR3 := Lib.hid (HR2.out.below hb HR2.out.lt)); (have cR3 := HR3.out.cell); (have mR3 := HR3.out.lt); (have B3 := Lib.hid (B2.out.trans (hb.mono B2.out.size))); clear hb cP2 mP2 cQ2 mQ2 cR2 mR2) | (go_at_call 5; (with_reducible refine (kChk2.out v3 B3.out).mono ?_); (rintro e v4 ⟨rfl, hb⟩); (have HP4 := Lib.hid (HP3.out.below hb HP3.out.lt)); (have cP4 := HP4.out.cell); (have mP4 := HP4.out.lt); (have HQ4 := Lib.hid (HQ3.out.below hb HQ3.out.lt)); (have cQ4 := HQ4.out.cell); (have mQ4 := HQ4.out.lt); (have HR4 := Lib.hid (HR3.out.below hb HR3.out.lt)); (have cR4 := HR4.out.cell); (have mR4 := HR4.out.lt); (have B4 := Lib.hid (B3.out.trans (hb.mono B3.out.size))); clear hb cP3 mP3 cQ3 mQ3 cR3 mR3) | (go_at_call 6; (with_reducible refine (kTru1.out v4 B4.out).mono ?_); (rintro e v5 ⟨rfl, hb⟩); (have HP5 := Lib.hid (HP4.out.below hb HP4.out.lt)); (have cP5 := HP5.out.cell); (have mP5 := HP5.out.lt); (have HQ5 := Lib.hid (HQ4.out.below hb HQ4.out.lt)); (have cQ5 := HQ5.out.cell); (have mQ5 := HQ5.out.lt); (have HR5 := Lib.hid (HR4.out.below hb HR4.out.lt)); (have cR5 := HR5.out.cell); (have mR5 := HR5.out.lt); (have B5 := Lib.hid (B4.out.trans (hb.mono B4.out.size))); clear hb cP4 mP4 cQ4 mQ4 cR4 mR4) | (go_at_call 6; (with_reducible refine (kTru2.out v5 B5.out).mono ?_); (rintro e v6 ⟨rfl, hb⟩); (have HP6 := Lib.hid (HP5.out.below hb HP5.out.lt)); (have cP6 := HP6.out.cell); (have mP6 := HP6.out.lt); (have HQ6 := Lib.hid (HQ5.out.below hb HQ5.out.lt)); (have cQ6 := HQ6.out.cell); (have mQ6 := HQ6.out.lt); (have HR6 := Lib.hid (HR5.out.below hb HR5.out.lt)); (have cR6 := HR6.out.cell); (have mR6 := HR6.out.lt); (have B6 := Lib.hid (B5.out.trans (hb.mono B5.out.size))); clear hb cP5 mP5 cQ5 mQ5 cR5 mR5) | (go_at_call 8; refine (compared_c _).mono ?_; (rintro e v99 ⟨rfl, hb99⟩); (have B99 := Lib.hid (B6.out.trans (hb99.mono B6.out.size))); clear hb99))
      go_ret
      exact ⟨rfl, B99.out⟩
    case true =>
      rw [ht2] at kT2
      have kTru2 := Lib.hid kT2
      clear kT2
      have kA := fun V => refAsk3_c wt mi 0 V
      cases hak : ask3 wt mi 0
      case false =>
        rw [hak] at kA
        have kAsk := Lib.hid kA
        clear kA ht1 ht2 hk1 hk2 hak HL HB HM HC HS HT hll hbl hmm hbm hus hut
        go_enter Try.func3, Try.ntmps3
        go_upto_region 1 with (fail)
        go_name_world X hX
        have B0 : Hid (Below w.heap.size w X) := Lib.hid (al3 hX).1
        have HP0 : Hid (Blk X w.heap.size 27 #[Value.slice Al nl cl, .int .i64 wa, .int .i64 l0, .int .i64 l1, .slice Ab nb cb, .int .i64 wrg]) := by rw [← hX]; exact Lib.hid (((Blk.new w _ _).alloc _).alloc _)
        have HQ0 : Hid (Blk X (w.heap.size + 1) 32 #[Value.slice Am nm cm, .int .i64 wb, .int .i64 h0, .int .i64 h1, .slice Ac nc cc, .int .i64 wrh, .slice SA ns sc, .int .i64 lk, .slice SB nt sd, .int .i64 lj]) := by rw [← hX]; exact Lib.hid ((Blk.new' (by simp) _ _).alloc _)
        have HR0 : Hid (Blk X (w.heap.size + 1 + 1) 34 #[Value.int .i64 wt, .int .i64 mi, .int .i64 nom]) := by rw [← hX]; exact Lib.hid (Blk.new' (by simp) _ _)
        have cP0 := HP0.out.cell
        have mP0 := HP0.out.lt
        have cQ0 := HQ0.out.cell
        have mQ0 := HQ0.out.lt
        have cR0 := HR0.out.cell
        have mR0 := HR0.out.lt
        clear hX
        go_wp2_with (first | (go_at_call 4; (with_reducible refine (kFar1.out X B0.out).mono ?_); (rintro e v1 ⟨rfl, hb⟩); (have HP1 := Lib.hid (HP0.out.below hb HP0.out.lt)); (have cP1 := HP1.out.cell); (have mP1 := HP1.out.lt); (have HQ1 := Lib.hid (HQ0.out.below hb HQ0.out.lt)); (have cQ1 := HQ1.out.cell); (have mQ1 := HQ1.out.lt); (have HR1 := Lib.hid (HR0.out.below hb HR0.out.lt)); (have cR1 := HR1.out.cell); (have mR1 := HR1.out.lt); (have B1 := Lib.hid (B0.out.trans (hb.mono B0.out.size))); clear hb cP0 mP0 cQ0 mQ0 cR0 mR0) | (go_at_call 4; (with_reducible refine (kFar2.out v1 B1.out).mono ?_); (rintro e v2 ⟨rfl, hb⟩); (have HP2 := Lib.hid (HP1.out.below hb HP1.out.lt)); (have cP2 := HP2.out.cell); (have mP2 := HP2.out.lt); (have HQ2 := Lib.hid (HQ1.out.below hb HQ1.out.lt)); (have cQ2 := HQ2.out.cell); (have mQ2 := HQ2.out.lt); (have HR2 := Lib.hid (HR1.out.below hb HR1.out.lt)); (have cR2 := HR2.out.cell); (have mR2 := HR2.out.lt); (have B2 := Lib.hid (B1.out.trans (hb.mono B1.out.size))); clear hb cP1 mP1 cQ1 mQ1 cR1 mR1) | (go_at_call 5; (with_reducible refine (kChk1.out v2 B2.out).mono ?_); (rintro e v3 ⟨rfl, hb⟩); (have HP3 := Lib.hid (HP2.out.below hb HP2.out.lt)); (have cP3 := HP3.out.cell); (have mP3 := HP3.out.lt); (have HQ3 := Lib.hid (HQ2.out.below hb HQ2.out.lt)); (have cQ3 := HQ3.out.cell); (have mQ3 := HQ3.out.lt); (have HR3 := Lib.hid (HR2.out.below hb HR2.out.lt)); (have cR3 := HR3.out.cell); (have mR3 := HR3.out.lt); (have B3 := Lib.hid (B2.out.trans (hb.mono B2.out.size))); clear hb cP2 mP2 cQ2 mQ2 cR2 mR2) | (go_at_call 5; (with_reducible refine (kChk2.out v3 B3.out).mono ?_); (rintro e v4 ⟨rfl, hb⟩); (have HP4 := Lib.hid (HP3.out.below hb HP3.out.lt)); (have cP4 := HP4.out.cell); (have mP4 := HP4.out.lt); (have HQ4 := Lib.hid (HQ3.out.below hb HQ3.out.lt)); (have cQ4 := HQ4.out.cell); (have mQ4 := HQ4.out.lt); (have HR4 := Lib.hid (HR3.out.below hb HR3.out.lt)); (have cR4 := HR4.out.cell); (have mR4 := HR4.out.lt); (have B4 := Lib.hid (B3.out.trans (hb.mono B3.out.size))); clear hb cP3 mP3 cQ3 mQ3 cR3 mR3) | (go_at_call 6; (with_reducible refine (kTru1.out v4 B4.out).mono ?_); (rintro e v5 ⟨rfl, hb⟩); (have HP5 := Lib.hid (HP4.out.below hb HP4.out.lt)); (have cP5 := HP5.out.cell); (have mP5 := HP5.out.lt); (have HQ5 := Lib.hid (HQ4.out.below hb HQ4.out.lt)); (have cQ5 := HQ5.out.cell); (have mQ5 := HQ5.out.lt); (have HR5 := Lib.hid (HR4.out.below hb HR4.out.lt)); (have cR5 := HR5.out.cell); (have mR5 := HR5.out.lt); (have B5 := Lib.hid (B4.out.trans (hb.mono B4.out.size))); clear hb cP4 mP4 cQ4 mQ4 cR4 mR4) | (go_at_call 6; (with_reducible refine (kTru2.out v5 B5.out).mono ?_); (rintro e v6 ⟨rfl, hb⟩); (have HP6 := Lib.hid (HP5.out.below hb HP5.out.lt)); (have cP6 := HP6.out.cell); (have mP6 := HP6.out.lt); (have HQ6 := Lib.hid (HQ5.out.below hb HQ5.out.lt)); (have cQ6 := HQ6.out.cell); (have mQ6 := HQ6.out.lt); (have HR6 := Lib.hid (HR5.out.below hb HR5.out.lt)); (have cR6 := HR6.out.cell); (have mR6 := HR6.out.lt); (have B6 := Lib.hid (B5.out.trans (hb.mono B5.out.size))); clear hb cP5 mP5 cQ5 mQ5 cR5 mR5) | (go_at_call 7; (with_reducible refine (kAsk.out _).mono ?_); (rintro e v0 ⟨rfl, rfl⟩)) | (go_at_call 8; refine (compared_c _).mono ?_; (rintro e v99 ⟨rfl, hb99⟩); (have B99 := Lib.hid (B6.out.trans (hb99.mono B6.out.size))); clear hb99))
        go_ret
        exact ⟨rfl, B99.out⟩
      case true =>
        rw [hak] at kA
        have kAsk := Lib.hid kA
        clear kA
        by_cases gn : nom < 1
        · have gB : decide (nom < 1) = true := decide_eq_true gn
          clear ht1 ht2 hk1 hk2 hak HL HB HM HC HS HT hll hbl hmm hbm hus hut
          go_enter Try.func3, Try.ntmps3
          go_upto_region 1 with (fail)
          go_name_world X hX
          have B0 : Hid (Below w.heap.size w X) := Lib.hid (al3 hX).1
          have HP0 : Hid (Blk X w.heap.size 27 #[Value.slice Al nl cl, .int .i64 wa, .int .i64 l0, .int .i64 l1, .slice Ab nb cb, .int .i64 wrg]) := by rw [← hX]; exact Lib.hid (((Blk.new w _ _).alloc _).alloc _)
          have HQ0 : Hid (Blk X (w.heap.size + 1) 32 #[Value.slice Am nm cm, .int .i64 wb, .int .i64 h0, .int .i64 h1, .slice Ac nc cc, .int .i64 wrh, .slice SA ns sc, .int .i64 lk, .slice SB nt sd, .int .i64 lj]) := by rw [← hX]; exact Lib.hid ((Blk.new' (by simp) _ _).alloc _)
          have HR0 : Hid (Blk X (w.heap.size + 1 + 1) 34 #[Value.int .i64 wt, .int .i64 mi, .int .i64 nom]) := by rw [← hX]; exact Lib.hid (Blk.new' (by simp) _ _)
          have cP0 := HP0.out.cell
          have mP0 := HP0.out.lt
          have cQ0 := HQ0.out.cell
          have mQ0 := HQ0.out.lt
          have cR0 := HR0.out.cell
          have mR0 := HR0.out.lt
          clear hX
          go_wp2_with (first | (go_at_call 4; (with_reducible refine (kFar1.out X B0.out).mono ?_); (rintro e v1 ⟨rfl, hb⟩); (have HP1 := Lib.hid (HP0.out.below hb HP0.out.lt)); (have cP1 := HP1.out.cell); (have mP1 := HP1.out.lt); (have HQ1 := Lib.hid (HQ0.out.below hb HQ0.out.lt)); (have cQ1 := HQ1.out.cell); (have mQ1 := HQ1.out.lt); (have HR1 := Lib.hid (HR0.out.below hb HR0.out.lt)); (have cR1 := HR1.out.cell); (have mR1 := HR1.out.lt); (have B1 := Lib.hid (B0.out.trans (hb.mono B0.out.size))); clear hb cP0 mP0 cQ0 mQ0 cR0 mR0) | (go_at_call 4; (with_reducible refine (kFar2.out v1 B1.out).mono ?_); (rintro e v2 ⟨rfl, hb⟩); (have HP2 := Lib.hid (HP1.out.below hb HP1.out.lt)); (have cP2 := HP2.out.cell); (have mP2 := HP2.out.lt); (have HQ2 := Lib.hid (HQ1.out.below hb HQ1.out.lt)); (have cQ2 := HQ2.out.cell); (have mQ2 := HQ2.out.lt); (have HR2 := Lib.hid (HR1.out.below hb HR1.out.lt)); (have cR2 := HR2.out.cell); (have mR2 := HR2.out.lt); (have B2 := Lib.hid (B1.out.trans (hb.mono B1.out.size))); clear hb cP1 mP1 cQ1 mQ1 cR1 mR1) | (go_at_call 5; (with_reducible refine (kChk1.out v2 B2.out).mono ?_); (rintro e v3 ⟨rfl, hb⟩); (have HP3 := Lib.hid (HP2.out.below hb HP2.out.lt)); (have cP3 := HP3.out.cell); (have mP3 := HP3.out.lt); (have HQ3 := Lib.hid (HQ2.out.below hb HQ2.out.lt)); (have cQ3 := HQ3.out.cell); (have mQ3 := HQ3.out.lt); (have HR3 := Lib.hid (HR2.out.below hb HR2.out.lt)); (have cR3 := HR3.out.cell); (have mR3 := HR3.out.lt); (have B3 := Lib.hid (B2.out.trans (hb.mono B2.out.size))); clear hb cP2 mP2 cQ2 mQ2 cR2 mR2) | (go_at_call 5; (with_reducible refine (kChk2.out v3 B3.out).mono ?_); (rintro e v4 ⟨rfl, hb⟩); (have HP4 := Lib.hid (HP3.out.below hb HP3.out.lt)); (have cP4 := HP4.out.cell); (have mP4 := HP4.out.lt); (have HQ4 := Lib.hid (HQ3.out.below hb HQ3.out.lt)); (have cQ4 := HQ4.out.cell); (have mQ4 := HQ4.out.lt); (have HR4 := Lib.hid (HR3.out.below hb HR3.out.lt)); (have cR4 := HR4.out.cell); (have mR4 := HR4.out.lt); (have B4 := Lib.hid (B3.out.trans (hb.mono B3.out.size))); clear hb cP3 mP3 cQ3 mQ3 cR3 mR3) | (go_at_call 6; (with_reducible refine (kTru1.out v4 B4.out).mono ?_); (rintro e v5 ⟨rfl, hb⟩); (have HP5 := Lib.hid (HP4.out.below hb HP4.out.lt)); (have cP5 := HP5.out.cell); (have mP5 := HP5.out.lt); (have HQ5 := Lib.hid (HQ4.out.below hb HQ4.out.lt)); (have cQ5 := HQ5.out.cell); (have mQ5 := HQ5.out.lt); (have HR5 := Lib.hid (HR4.out.below hb HR4.out.lt)); (have cR5 := HR5.out.cell); (have mR5 := HR5.out.lt); (have B5 := Lib.hid (B4.out.trans (hb.mono B4.out.size))); clear hb cP4 mP4 cQ4 mQ4 cR4 mR4) | (go_at_call 6; (with_reducible refine (kTru2.out v5 B5.out).mono ?_); (rintro e v6 ⟨rfl, hb⟩); (have HP6 := Lib.hid (HP5.out.below hb HP5.out.lt)); (have cP6 := HP6.out.cell); (have mP6 := HP6.out.lt); (have HQ6 := Lib.hid (HQ5.out.below hb HQ5.out.lt)); (have cQ6 := HQ6.out.cell); (have mQ6 := HQ6.out.lt); (have HR6 := Lib.hid (HR5.out.below hb HR5.out.lt)); (have cR6 := HR6.out.cell); (have mR6 := HR6.out.lt); (have B6 := Lib.hid (B5.out.trans (hb.mono B5.out.size))); clear hb cP5 mP5 cQ5 mQ5 cR5 mR5) | (go_at_call 7; (with_reducible refine (kAsk.out _).mono ?_); (rintro e v0 ⟨rfl, rfl⟩)) | (go_at_call 8; refine (compared_c _).mono ?_; (rintro e v99 ⟨rfl, hb99⟩); (have B99 := Lib.hid (B6.out.trans (hb99.mono B6.out.size))); clear hb99))
          go_ret
          exact ⟨rfl, B99.out⟩
        have gnB : decide (nom < 1) = false := decide_eq_false gn
        by_cases gm : 100000 < nom
        · have gB : decide (100000 < nom) = true := decide_eq_true gm
          clear ht1 ht2 hk1 hk2 hak HL HB HM HC HS HT hll hbl hmm hbm hus hut
          go_enter Try.func3, Try.ntmps3
          go_upto_region 1 with (fail)
          go_name_world X hX
          have B0 : Hid (Below w.heap.size w X) := Lib.hid (al3 hX).1
          have HP0 : Hid (Blk X w.heap.size 27 #[Value.slice Al nl cl, .int .i64 wa, .int .i64 l0, .int .i64 l1, .slice Ab nb cb, .int .i64 wrg]) := by rw [← hX]; exact Lib.hid (((Blk.new w _ _).alloc _).alloc _)
          have HQ0 : Hid (Blk X (w.heap.size + 1) 32 #[Value.slice Am nm cm, .int .i64 wb, .int .i64 h0, .int .i64 h1, .slice Ac nc cc, .int .i64 wrh, .slice SA ns sc, .int .i64 lk, .slice SB nt sd, .int .i64 lj]) := by rw [← hX]; exact Lib.hid ((Blk.new' (by simp) _ _).alloc _)
          have HR0 : Hid (Blk X (w.heap.size + 1 + 1) 34 #[Value.int .i64 wt, .int .i64 mi, .int .i64 nom]) := by rw [← hX]; exact Lib.hid (Blk.new' (by simp) _ _)
          have cP0 := HP0.out.cell
          have mP0 := HP0.out.lt
          have cQ0 := HQ0.out.cell
          have mQ0 := HQ0.out.lt
          have cR0 := HR0.out.cell
          have mR0 := HR0.out.lt
          clear hX
          go_wp2_with (first | (go_at_call 4; (with_reducible refine (kFar1.out X B0.out).mono ?_); (rintro e v1 ⟨rfl, hb⟩); (have HP1 := Lib.hid (HP0.out.below hb HP0.out.lt)); (have cP1 := HP1.out.cell); (have mP1 := HP1.out.lt); (have HQ1 := Lib.hid (HQ0.out.below hb HQ0.out.lt)); (have cQ1 := HQ1.out.cell); (have mQ1 := HQ1.out.lt); (have HR1 := Lib.hid (HR0.out.below hb HR0.out.lt)); (have cR1 := HR1.out.cell); (have mR1 := HR1.out.lt); (have B1 := Lib.hid (B0.out.trans (hb.mono B0.out.size))); clear hb cP0 mP0 cQ0 mQ0 cR0 mR0) | (go_at_call 4; (with_reducible refine (kFar2.out v1 B1.out).mono ?_); (rintro e v2 ⟨rfl, hb⟩); (have HP2 := Lib.hid (HP1.out.below hb HP1.out.lt)); (have cP2 := HP2.out.cell); (have mP2 := HP2.out.lt); (have HQ2 := Lib.hid (HQ1.out.below hb HQ1.out.lt)); (have cQ2 := HQ2.out.cell); (have mQ2 := HQ2.out.lt); (have HR2 := Lib.hid (HR1.out.below hb HR1.out.lt)); (have cR2 := HR2.out.cell); (have mR2 := HR2.out.lt); (have B2 := Lib.hid (B1.out.trans (hb.mono B1.out.size))); clear hb cP1 mP1 cQ1 mQ1 cR1 mR1) | (go_at_call 5; (with_reducible refine (kChk1.out v2 B2.out).mono ?_); (rintro e v3 ⟨rfl, hb⟩); (have HP3 := Lib.hid (HP2.out.below hb HP2.out.lt)); (have cP3 := HP3.out.cell); (have mP3 := HP3.out.lt); (have HQ3 := Lib.hid (HQ2.out.below hb HQ2.out.lt)); (have cQ3 := HQ3.out.cell); (have mQ3 := HQ3.out.lt); (have HR3 := Lib.hid (HR2.out.below hb HR2.out.lt)); (have cR3 := HR3.out.cell); (have mR3 := HR3.out.lt); (have B3 := Lib.hid (B2.out.trans (hb.mono B2.out.size))); clear hb cP2 mP2 cQ2 mQ2 cR2 mR2) | (go_at_call 5; (with_reducible refine (kChk2.out v3 B3.out).mono ?_); (rintro e v4 ⟨rfl, hb⟩); (have HP4 := Lib.hid (HP3.out.below hb HP3.out.lt)); (have cP4 := HP4.out.cell); (have mP4 := HP4.out.lt); (have HQ4 := Lib.hid (HQ3.out.below hb HQ3.out.lt)); (have cQ4 := HQ4.out.cell); (have mQ4 := HQ4.out.lt); (have HR4 := Lib.hid (HR3.out.below hb HR3.out.lt)); (have cR4 := HR4.out.cell); (have mR4 := HR4.out.lt); (have B4 := Lib.hid (B3.out.trans (hb.mono B3.out.size))); clear hb cP3 mP3 cQ3 mQ3 cR3 mR3) | (go_at_call 6; (with_reducible refine (kTru1.out v4 B4.out).mono ?_); (rintro e v5 ⟨rfl, hb⟩); (have HP5 := Lib.hid (HP4.out.below hb HP4.out.lt)); (have cP5 := HP5.out.cell); (have mP5 := HP5.out.lt); (have HQ5 := Lib.hid (HQ4.out.below hb HQ4.out.lt)); (have cQ5 := HQ5.out.cell); (have mQ5 := HQ5.out.lt); (have HR5 := Lib.hid (HR4.out.below hb HR4.out.lt)); (have cR5 := HR5.out.cell); (have mR5 := HR5.out.lt); (have B5 := Lib.hid (B4.out.trans (hb.mono B4.out.size))); clear hb cP4 mP4 cQ4 mQ4 cR4 mR4) | (go_at_call 6; (with_reducible refine (kTru2.out v5 B5.out).mono ?_); (rintro e v6 ⟨rfl, hb⟩); (have HP6 := Lib.hid (HP5.out.below hb HP5.out.lt)); (have cP6 := HP6.out.cell); (have mP6 := HP6.out.lt); (have HQ6 := Lib.hid (HQ5.out.below hb HQ5.out.lt)); (have cQ6 := HQ6.out.cell); (have mQ6 := HQ6.out.lt); (have HR6 := Lib.hid (HR5.out.below hb HR5.out.lt)); (have cR6 := HR6.out.cell); (have mR6 := HR6.out.lt); (have B6 := Lib.hid (B5.out.trans (hb.mono B5.out.size))); clear hb cP5 mP5 cQ5 mQ5 cR5 mR5) | (go_at_call 7; (with_reducible refine (kAsk.out _).mono ?_); (rintro e v0 ⟨rfl, rfl⟩)) | (go_at_call 8; refine (compared_c _).mono ?_; (rintro e v99 ⟨rfl, hb99⟩); (have B99 := Lib.hid (B6.out.trans (hb99.mono B6.out.size))); clear hb99))
          go_ret
          exact ⟨rfl, B99.out⟩
        exact topyard_main Al nl cl wa l0 l1 Ab nb cb wrg lv bl Am nm cm wb h0 h1 Ac nc cc wrh lu bm SA ns sc us lk SB nt sd ut lj wt mi nom w HL HB HM HC HS HT hf1k hf2k hk1 hk2 g40 g41 ht1 ht2 hak gn gm

end Go.Proofs.Ytcinhibmohkeiaa
