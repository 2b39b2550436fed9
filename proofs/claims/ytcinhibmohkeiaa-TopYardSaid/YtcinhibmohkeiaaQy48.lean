/- TopYard walked: for every input it returns true. -/
import Derived.Test.YtcinhibmohkeiaaQy47
import Derived.Shelf.Abstract
import Derived.Laws.EntriesVeiled
import Derived.Handy
import Derived.Deep.DrawnRows
import Derived.Deep.DeepCutAuto
namespace Go.Proofs.Ytcinhibmohkeiaa
open Go.RowKit
open Go.Sort (grow)
set_option linter.unusedVariables false
set_option linter.unusedSimpArgs false

set_option maxRecDepth 100000 in
set_option maxHeartbeats 6400000 in
theorem topyard_c (Al : Option Addr) (nl cl : Nat) (wa l0 l1 : Int) (Ab : Option Addr) (nb cb : Nat) (wrg : Int) (lv : List Lv) (bl : List Bal) (Am : Option Addr) (nm cm : Nat) (wb h0 h1 : Int) (Ac : Option Addr) (nc cc : Nat) (wrh : Int) (lu : List Lv) (bm : List Bal) (SA : Option Addr) (ns sc : Nat) (us : List Int) (lk : Int) (SB : Option Addr) (nt sd : Nat) (ut : List Int) (lj : Int) (wt mi nom : Int) (w : World) (HL : LvsAt w Al nl lv) (HB : BasAt w Ab nb bl) (HM : LvsAt w Am nm lu) (HC : BasAt w Ac nc bm) (HS : IntsAt w SA ns us) (HT : IntsAt w SB nt ut) :
    Calls Try.prog 3 #[.agg #[.slice Al nl cl, .int .i64 wa, .int .i64 l0, .int .i64 l1, .slice Ab nb cb, .int .i64 wrg], .agg #[.slice Am nm cm, .int .i64 wb, .int .i64 h0, .int .i64 h1, .slice Ac nc cc, .int .i64 wrh, .slice SA ns sc, .int .i64 lk, .slice SB nt sd, .int .i64 lj], .agg #[.int .i64 wt, .int .i64 mi, .int .i64 nom]] w fun e w' => e = .returned (.bool true) ∧ Below w.heap.size w w' := by
  have hll := HL.1
  have hbl := HB.1
  have hmm := HM.1
  have hbm := HC.1
  have hus := HS.1
  have hut := HT.1
  have kF1 := fun V (hV : Below w.heap.size w V) => Far3_c Al nl cl wa l0 l1 Ab nb cb wrg lv bl V (HL.later hV) (HB.later hV)
  have kF2 := fun V (hV : Below w.heap.size w V) => Far3_c Am nm cm wb h0 h1 Ac nc cc wrh lu bm V (HM.later hV) (HC.later hV)
  cases hf1 : far3 nl nb wa l0 l1 wrg lv bl
  case true =>
    rw [hf1] at kF1
    have kFar1 := Lib.hid kF1
    clear kF1 kF2 hf1 HL HB HM HC HS HT hll hbl hmm hbm hus hut
    go_enter Try.func3, Try.ntmps3
    go_upto_region 1 with (fail)
    go_name_world X hX
    have B0 : Hid (Below w.heap.size w X) := Lib.hid (al3 hX).1
    have HP0 : Hid (Blk X w.heap.size 27 #[Value.slice Al nl cl, .int .i64 wa, .int .i64 l0, .int .i64 l1, .slice Ab nb cb, .int .i64 wrg]) := by rw [← hX]; exact Lib.hid (((Blk.new w _ _).alloc _).alloc _)
    have HQ0 : Hid (Blk X (w.heap.size + 1) 32 #[Value.slice Am nm cm, .int .i64 wb, .int .i64 h0, .int .i64 h1, .slice Ac nc cc, .int .i64 wrh, .slice SA ns sc, .int .i64 lk, .slice SB nt sd, .int .i64 lj]) := by rw [← hX]; exact Lib.hid ((Blk.new' (by simp) _ _).alloc _)
    have HR0 : Hid (Blk X (w.heap.size + 1 + 1) 34 #[Value.int .i64 wt, .int .i64 mi, .int .i64 nom]) := by rw [← hX]; exact Lib.hid (Blk.new' (by simp) _ _)
    have cP0 := HP0.out.cell
    have mP0 := HP0.out.lt
    have cQ0 := HQ0.out.cell
    have mQ0 := HQ0.out.lt
    have cR0 := HR0.out.cell
    have mR0 := HR0.out.lt
    clear hX
    go_wp2_with (first | (go_at_call 4; (with_reducible refine (kFar1.out X B0.out).mono ?_); (rintro e v1 ⟨rfl, hb⟩); (have HP1 := Lib.hid (HP0.out.below hb HP0.out.lt)); (have cP1 := HP1.out.cell); (have mP1 := HP1.out.lt); (have HQ1 := Lib.hid (HQ0.out.below hb HQ0.out.lt)); (have cQ1 := HQ1.out.cell); (have mQ1 := HQ1.out.lt); (have HR1 := Lib.hid (HR0.out.below hb HR0.out.lt)); (have cR1 := HR1.out.cell); (have mR1 := HR1.out.lt); (have B1 := Lib.hid (B0.out.trans (hb.mono B0.out.size))); clear hb cP0 mP0 cQ0 mQ0 cR0 mR0) | (go_at_call 8; refine (compared_c _).mono ?_; (rintro e v99 ⟨rfl, hb99⟩); (have B99 := Lib.hid (B1.out.trans (hb99.mono B1.out.size))); clear hb99))
    go_ret
    exact ⟨rfl, B99.out⟩
  case false =>
    rw [hf1] at kF1
    have kFar1 := Lib.hid kF1
    obtain ⟨hn40, hb40⟩ := far3_no hf1
    clear kF1
    cases hf2 : far3 nm nc wb h0 h1 wrh lu bm
    case true =>
      rw [hf2] at kF2
      have kFar2 := Lib.hid kF2
      clear kF2 hf2 HL HB HM HC HS HT hll hbl hmm hbm hus hut
      go_enter Try.func3, Try.ntmps3
      go_upto_region 1 with (fail)
      go_name_world X hX
      have B0 : Hid (Below w.heap.size w X) := Lib.hid (al3 hX).1
      have HP0 : Hid (Blk X w.heap.size 27 #[Value.slice Al nl cl, .int .i64 wa, .int .i64 l0, .int .i64 l1, .slice Ab nb cb, .int .i64 wrg]) := by rw [← hX]; exact Lib.hid (((Blk.new w _ _).alloc _).alloc _)
      have HQ0 : Hid (Blk X (w.heap.size + 1) 32 #[Value.slice Am nm cm, .int .i64 wb, .int .i64 h0, .int .i64 h1, .slice Ac nc cc, .int .i64 wrh, .slice SA ns sc, .int .i64 lk, .slice SB nt sd, .int .i64 lj]) := by rw [← hX]; exact Lib.hid ((Blk.new' (by simp) _ _).alloc _)
      have HR0 : Hid (Blk X (w.heap.size + 1 + 1) 34 #[Value.int .i64 wt, .int .i64 mi, .int .i64 nom]) := by rw [← hX]; exact Lib.hid (Blk.new' (by simp) _ _)
      have cP0 := HP0.out.cell
      have mP0 := HP0.out.lt
      have cQ0 := HQ0.out.cell
      have mQ0 := HQ0.out.lt
      have cR0 := HR0.out.cell
      have mR0 := HR0.out.lt
      clear hX
      go_wp2_with (first | (go_at_call 4; (with_reducible refine (kFar1.out X B0.out).mono ?_); (rintro e v1 ⟨rfl, hb⟩); (have HP1 := Lib.hid (HP0.out.below hb HP0.out.lt)); (have cP1 := HP1.out.cell); (have mP1 := HP1.out.lt); (have HQ1 := Lib.hid (HQ0.out.below hb HQ0.out.lt)); (have cQ1 := HQ1.out.cell); (have mQ1 := HQ1.out.lt); (have HR1 := Lib.hid (HR0.out.below hb HR0.out.lt)); (have cR1 := HR1.out.cell); (have mR1 := HR1.out.lt); (have B1 := Lib.hid (B0.out.trans (hb.mono B0.out.size))); clear hb cP0 mP0 cQ0 mQ0 cR0 mR0) | (go_at_call 4; (with_reducible refine (kFar2.out v1 B1.out).mono ?_); (rintro e v2 ⟨rfl, hb⟩); (have HP2 := Lib.hid (HP1.out.below hb HP1.out.lt)); (have cP2 := HP2.out.cell); (have mP2 := HP2.out.lt); (have HQ2 := Lib.hid (HQ1.out.below hb HQ1.out.lt)); (have cQ2 := HQ2.out.cell); (have mQ2 := HQ2.out.lt); (have HR2 := Lib.hid (HR1.out.below hb HR1.out.lt)); (have cR2 := HR2.out.cell); (have mR2 := HR2.out.lt); (have B2 := Lib.hid (B1.out.trans (hb.mono B1.out.size))); clear hb cP1 mP1 cQ1 mQ1 cR1 mR1) | (go_at_call 8; refine (compared_c _).mono ?_; (rintro e v99 ⟨rfl, hb99⟩); (have B99 := Lib.hid (B2.out.trans (hb99.mono B2.out.size))); clear hb99))
      go_ret
      exact ⟨rfl, B99.out⟩
    case false =>
      rw [hf2] at kF2
      have kFar2 := Lib.hid kF2
      obtain ⟨hm40, hc40⟩ := far3_no hf2
      clear kF2
      have kC1 := fun V (hV : Below w.heap.size w V) => refCheck3_c Al nl cl wa l0 l1 Ab nb cb wrg lv bl V hn40 hb40 (HL.later hV) (HB.later hV)
      have kC2 := fun V (hV : Below w.heap.size w V) => refCheck3_c Am nm cm wb h0 h1 Ac nc cc wrh lu bm V hm40 hc40 (HM.later hV) (HC.later hV)
      cases hk1 : ckM nl nb wa l0 l1 wrg lv bl
      case false =>
        have kChk1 : Hid (∀ V, Below w.heap.size w V → Calls Try.prog 5 #[.agg #[.slice Al nl cl, .int .i64 wa, .int .i64 l0, .int .i64 l1, .slice Ab nb cb, .int .i64 wrg]] V fun e w' => e = .returned (.int .i64 30) ∧ Below V.heap.size V w') := Lib.hid (fun V hV => by have := kC1 V hV; rw [hk1] at this; exact this)
        clear kC1 kC2 hk1 HL HB HM HC HS HT hll hbl hmm hbm hus hut
        go_enter Try.func3, Try.ntmps3
        go_upto_region 1 with (fail)
        go_name_world X hX
        have B0 : Hid (Below w.heap.size w X) := Lib.hid (al3 hX).1
        have HP0 : Hid (Blk X w.heap.size 27 #[Value.slice Al nl cl, .int .i64 wa, .int .i64 l0, .int .i64 l1, .slice Ab nb cb, .int .i64 wrg]) := by rw [← hX]; exact Lib.hid (((Blk.new w _ _).alloc _).alloc _)
        have HQ0 : Hid (Blk X (w.heap.size + 1) 32 #[Value.slice Am nm cm, .int .i64 wb, .int .i64 h0, .int .i64 h1, .slice Ac nc cc, .int .i64 wrh, .slice SA ns sc, .int .i64 lk, .slice SB nt sd, .int .i64 lj]) := by rw [← hX]; exact Lib.hid ((Blk.new' (by simp) _ _).alloc _)
        have HR0 : Hid (Blk X (w.heap.size + 1 + 1) 34 #[Value.int .i64 wt, .int .i64 mi, .int .i64 nom]) := by rw [← hX]; exact Lib.hid (Blk.new' (by simp) _ _)
        have cP0 := HP0.out.cell
        have mP0 := HP0.out.lt
        have cQ0 := HQ0.out.cell
        have mQ0 := HQ0.out.lt
        have cR0 := HR0.out.cell
        have mR0 := HR0.out.lt
        clear hX
        go_wp2_with (first | (go_at_call 4; (with_reducible refine (kFar1.out X B0.out).mono ?_); (rintro e v1 ⟨rfl, hb⟩); (have HP1 := Lib.hid (HP0.out.below hb HP0.out.lt)); (have cP1 := HP1.out.cell); (have mP1 := HP1.out.lt); (have HQ1 := Lib.hid (HQ0.out.below hb HQ0.out.lt)); (have cQ1 := HQ1.out.cell); (have mQ1 := HQ1.out.lt); (have HR1 := Lib.hid (HR0.out.below hb HR0.out.lt)); (have cR1 := HR1.out.cell); (have mR1 := HR1.out.lt); (have B1 := Lib.hid (B0.out.trans (hb.mono B0.out.size))); clear hb cP0 mP0 cQ0 mQ0 cR0 mR0) | (go_at_call 4; (with_reducible refine (kFar2.out v1 B1.out).mono ?_); (rintro e v2 ⟨rfl, hb⟩); (have HP2 := Lib.hid (HP1.out.below hb HP1.out.lt)); (have cP2 := HP2.out.cell); (have mP2 := HP2.out.lt); (have HQ2 := Lib.hid (HQ1.out.below hb HQ1.out.lt)); (have cQ2 := HQ2.out.cell); (have mQ2 := HQ2.out.lt); (have HR2 := Lib.hid (HR1.out.below hb HR1.out.lt)); (have cR2 := HR2.out.cell); (have mR2 := HR2.out.lt); (have B2 := Lib.hid (B1.out.trans (hb.mono B1.out.size))); clear hb cP1 mP1 cQ1 mQ1 cR1 mR1) | (go_at_call 5; (with_reducible refine (kChk1.out v2 B2.out).mono ?_); (rintro e v3 ⟨rfl, hb⟩); (have HP3 := Lib.hid (HP2.out.below hb HP2.out.lt)); (have cP3 := HP3.out.cell); (have mP3 := HP3.out.lt); (have HQ3 := Lib.hid (HQ2.out.below hb HQ2.out.lt)); (have cQ3 := HQ3.out.cell); (have mQ3 := HQ3.out.lt); (have HR3 := Lib.hid (HR2.out.below hb HR2.out.lt)); (have cR3 := HR3.out.cell); (have mR3 := HR3.out.lt); (have B3 := Lib.hid (B2.out.trans (hb.mono B2.out.size))); clear hb cP2 mP2 cQ2 mQ2 cR2 mR2) | (go_at_call 8; refine (compared_c _).mono ?_; (rintro e v99 ⟨rfl, hb99⟩); (have B99 := Lib.hid (B3.out.trans (hb99.mono B3.out.size))); clear hb99))
        go_ret
        exact ⟨rfl, B99.out⟩
      case true =>
        have kChk1 : Hid (∀ V, Below w.heap.size w V → Calls Try.prog 5 #[.agg #[.slice Al nl cl, .int .i64 wa, .int .i64 l0, .int .i64 l1, .slice Ab nb cb, .int .i64 wrg]] V fun e w' => e = .returned (.int .i64 0) ∧ Below V.heap.size V w') := Lib.hid (fun V hV => by have := kC1 V hV; rw [hk1] at this; exact this)
        clear kC1
        cases hk2 : ckM nm nc wb h0 h1 wrh lu bm
        case false =>
          have kChk2 : Hid (∀ V, Below w.heap.size w V → Calls Try.prog 5 #[.agg #[.slice Am nm cm, .int .i64 wb, .int .i64 h0, .int .i64 h1, .slice Ac nc cc, .int .i64 wrh]] V fun e w' => e = .returned (.int .i64 30) ∧ Below V.heap.size V w') := Lib.hid (fun V hV => by have := kC2 V hV; rw [hk2] at this; exact this)
          clear kC2 hk1 hk2 HL HB HM HC HS HT hll hbl hmm hbm hus hut
          go_enter Try.func3, Try.ntmps3
          go_upto_region 1 with (fail)
          go_name_world X hX
          have B0 : Hid (Below w.heap.size w X) := Lib.hid (al3 hX).1
          have HP0 : Hid (Blk X w.heap.size 27 #[Value.slice Al nl cl, .int .i64 wa, .int .i64 l0, .int .i64 l1, .slice Ab nb cb, .int .i64 wrg]) := by rw [← hX]; exact Lib.hid (((Blk.new w _ _).alloc _).alloc _)
          have HQ0 : Hid (Blk X (w.heap.size + 1) 32 #[Value.slice Am nm cm, .int .i64 wb, .int .i64 h0, .int .i64 h1, .slice Ac nc cc, .int .i64 wrh, .slice SA ns sc, .int .i64 lk, .slice SB nt sd, .int .i64 lj]) := by rw [← hX]; exact Lib.hid ((Blk.new' (by simp) _ _).alloc _)
          have HR0 : Hid (Blk X (w.heap.size + 1 + 1) 34 #[Value.int .i64 wt, .int .i64 mi, .int .i64 nom]) := by rw [← hX]; exact Lib.hid (Blk.new' (by simp) _ _)
          have cP0 := HP0.out.cell
          have mP0 := HP0.out.lt
          have cQ0 := HQ0.out.cell
          have mQ0 := HQ0.out.lt
          have cR0 := HR0.out.cell
          have mR0 := HR0.out.lt
          clear hX
          go_wp2_with (first | (go_at_call 4; (with_reducible refine (kFar1.out X B0.out).mono ?_); (rintro e v1 ⟨rfl, hb⟩); (have HP1 := Lib.hid (HP0.out.below hb HP0.out.lt)); (have cP1 := HP1.out.cell); (have mP1 := HP1.out.lt); (have HQ1 := Lib.hid (HQ0.out.below hb HQ0.out.lt)); (have cQ1 := HQ1.out.cell); (have mQ1 := HQ1.out.lt); (have HR1 := Lib.hid (HR0.out.below hb HR0.out.lt)); (have cR1 := HR1.out.cell); (have mR1 := HR1.out.lt); (have B1 := Lib.hid (B0.out.trans (hb.mono B0.out.size))); clear hb cP0 mP0 cQ0 mQ0 cR0 mR0) | (go_at_call 4; (with_reducible refine (kFar2.out v1 B1.out).mono ?_); (rintro e v2 ⟨rfl, hb⟩); (have HP2 := Lib.hid (HP1.out.below hb HP1.out.lt)); (have cP2 := HP2.out.cell); (have mP2 := HP2.out.lt); (have HQ2 := Lib.hid (HQ1.out.below hb HQ1.out.lt)); (have cQ2 := HQ2.out.cell); (have mQ2 := HQ2.out.lt); (have HR2 := Lib.hid (HR1.out.below hb HR1.out.lt)); (have cR2 := HR2.out.cell); (have mR2 := HR2.out.lt); (have B2 := Lib.hid (B1.out.trans (hb.mono B1.out.size))); clear hb cP1 mP1 cQ1 mQ1 cR1 mR1) | (go_at_call 5; (with_reducible refine (kChk1.out v2 B2.out).mono ?_); (rintro e v3 ⟨rfl, hb⟩); (have HP3 := Lib.hid (HP2.out.below hb HP2.out.lt)); (have cP3 := HP3.out.cell); (have mP3 := HP3.out.lt); (have HQ3 := Lib.hid (HQ2.out.below hb HQ2.out.lt)); (have cQ3 := HQ3.out.cell); (have mQ3 := HQ3.out.lt); (have HR3 := Lib.hid (HR2.out.below hb HR2.out.lt)); (have cR3 := HR3.out.cell); (have mR3 := HR3.out.lt); (have B3 := Lib.hid (B2.out.trans (hb.mono B2.out.size))); clear hb cP2 mP2 cQ2 mQ2 cR2 mR2) | (go_at_call 5; (with_reducible refine (kChk2.out v3 B3.out).mono ?_); (rintro e v4 ⟨rfl, hb⟩); (have HP4 := Lib.hid (HP3.out.below hb HP3.out.lt)); (have cP4 := HP4.out.cell); (have mP4 := HP4.out.lt); (have HQ4 := Lib.hid (HQ3.out.below hb HQ3.out.lt)); (have cQ4 := HQ4.out.cell); (have mQ4 := HQ4.out.lt); (have HR4 := Lib.hid (HR3.out.below hb HR3.out.lt)); (have cR4 := HR4.out.cell); (have mR4 := HR4.out.lt); (have B4 := Lib.hid (B3.out.trans (hb.mono B3.out.size))); clear hb cP3 mP3 cQ3 mQ3 cR3 mR3) | (go_at_call 8; refine (compared_c _).mono ?_; (rintro e v99 ⟨rfl, hb99⟩); (have B99 := Lib.hid (B4.out.trans (hb99.mono B4.out.size))); clear hb99))
          go_ret
          exact ⟨rfl, B99.out⟩
        case true =>
          have kChk2 : Hid (∀ V, Below w.heap.size w V → Calls Try.prog 5 #[.agg #[.slice Am nm cm, .int .i64 wb, .int .i64 h0, .int .i64 h1, .slice Ac nc cc, .int .i64 wrh]] V fun e w' => e = .returned (.int .i64 0) ∧ Below V.heap.size V w') := Lib.hid (fun V hV => by have := kC2 V hV; rw [hk2] at this; exact this)
          clear kC2
          by_cases g40 : (40 : Int) < ns
          · have gB : decide ((40 : Int) < ns) = true := decide_eq_true g40
            clear hk1 hk2 HL HB HM HC HS HT hll hbl hmm hbm hus hut
            go_enter Try.func3, Try.ntmps3
            go_upto_region 1 with (fail)
            go_name_world X hX
            have B0 : Hid (Below w.heap.size w X) := Lib.hid (al3 hX).1
            have HP0 : Hid (Blk X w.heap.size 27 #[Value.slice Al nl cl, .int .i64 wa, .int .i64 l0, .int .i64 l1, .slice Ab nb cb, .int .i64 wrg]) := by rw [← hX]; exact Lib.hid (((Blk.new w _ _).alloc _).alloc _)
            have HQ0 : Hid (Blk X (w.heap.size + 1) 32 #[Value.slice Am nm cm, .int .i64 wb, .int .i64 h0, .int .i64 h1, .slice Ac nc cc, .int .i64 wrh, .slice SA ns sc, .int .i64 lk, .slice SB nt sd, .int .i64 lj]) := by rw [← hX]; exact Lib.hid ((Blk.new' (by simp) _ _).alloc _)
            have HR0 : Hid (Blk X (w.heap.size + 1 + 1) 34 #[Value.int .i64 wt, .int .i64 mi, .int .i64 nom]) := by rw [← hX]; exact Lib.hid (Blk.new' (by simp) _ _)
            have cP0 := HP0.out.cell
            have mP0 := HP0.out.lt
            have cQ0 := HQ0.out.cell
            have mQ0 := HQ0.out.lt
            have cR0 := HR0.out.cell
            have mR0 := HR0.out.lt
            clear hX
            go_wp2_with (first | (go_at_call 4; (with_reducible refine (kFar1.out X B0.out).mono ?_); (rintro e v1 ⟨rfl, hb⟩); (have HP1 := Lib.hid (HP0.out.below hb HP0.out.lt)); (have cP1 := HP1.out.cell); (have mP1 := HP1.out.lt); (have HQ1 := Lib.hid (HQ0.out.below hb HQ0.out.lt)); (have cQ1 := HQ1.out.cell); (have mQ1 := HQ1.out.lt); (have HR1 := Lib.hid (HR0.out.below hb HR0.out.lt)); (have cR1 := HR1.out.cell); (have mR1 := HR1.out.lt); (have B1 := Lib.hid (B0.out.trans (hb.mono B0.out.size))); clear hb cP0 mP0 cQ0 mQ0 cR0 mR0) | (go_at_call 4; (with_reducible refine (kFar2.out v1 B1.out).mono ?_); (rintro e v2 ⟨rfl, hb⟩); (have HP2 := Lib.hid (HP1.out.below hb HP1.out.lt)); (have cP2 := HP2.out.cell); (have mP2 := HP2.out.lt); (have HQ2 := Lib.hid (HQ1.out.below hb HQ1.out.lt)); (have cQ2 := HQ2.out.cell); (have mQ2 := HQ2.out.lt); (have HR2 := Lib.hid (HR1.out.below hb HR1.out.lt)); (have cR2 := HR2.out.cell); (have mR2 := HR2.out.lt); (have B2 := Lib.hid (B1.out.trans (hb.mono B1.out.size))); clear hb cP1 mP1 cQ1 mQ1 cR1 mR1) | (go_at_call 5; (with_reducible refine (kChk1.out v2 B2.out).mono ?_); (rintro e v3 ⟨rfl, hb⟩); (have HP3 := Lib.hid (HP2.out.below hb HP2.out.lt)); (have cP3 := HP3.out.cell); (have mP3 := HP3.out.lt); (have HQ3 := Lib.hid (HQ2.out.below hb HQ2.out.lt)); (have cQ3 := HQ3.out.cell); (have mQ3 := HQ3.out.lt); (have HR3 := Lib.hid (HR2.out.below hb HR2.out.lt)); (have cR3 := HR3.out.cell); (have mR3 := HR3.out.lt); (have B3 := Lib.hid (B2.out.trans (hb.mono B2.out.size))); clear hb cP2 mP2 cQ2 mQ2 cR2 mR2) | (go_at_call 5; (with_reducible refine (kChk2.out v3 B3.out).mono ?_); (rintro e v4 ⟨rfl, hb⟩); (have HP4 := Lib.hid (HP3.out.below hb HP3.out.lt)); (have cP4 := HP4.out.cell); (have mP4 := HP4.out.lt); (have HQ4 := Lib.hid (HQ3.out.below hb HQ3.out.lt)); (have cQ4 := HQ4.out.cell); (have mQ4 := HQ4.out.lt); (have HR4 := Lib.hid (HR3.out.below hb HR3.out.lt)); (have cR4 := HR4.out.cell); (have mR4 := HR4.out.lt); (have B4 := Lib.hid (B3.out.trans (hb.mono B3.out.size))); clear hb cP3 mP3 cQ3 mQ3 cR3 mR3) | (go_at_call 8; refine (compared_c _).mono ?_; (rintro e v99 ⟨rfl, hb99⟩); (have B99 := Lib.hid (B4.out.trans (hb99.mono B4.out.size))); clear hb99))
            go_ret
            exact ⟨rfl, B99.out⟩
          have g40B : decide ((40 : Int) < ns) = false := decide_eq_false g40
          by_cases g41 : (40 : Int) < nt
          · have gB : decide ((40 : Int) < nt) = true := decide_eq_true g41
            clear hk1 hk2 HL HB HM HC HS HT hll hbl hmm hbm hus hut
            go_enter Try.func3, Try.ntmps3
            go_upto_region 1 with (fail)
            go_name_world X hX
            have B0 : Hid (Below w.heap.size w X) := Lib.hid (al3 hX).1
            have HP0 : Hid (Blk X w.heap.size 27 #[Value.slice Al nl cl, .int .i64 wa, .int .i64 l0, .int .i64 l1, .slice Ab nb cb, .int .i64 wrg]) := by rw [← hX]; exact Lib.hid (((Blk.new w _ _).alloc _).alloc _)
            have HQ0 : Hid (Blk X (w.heap.size + 1) 32 #[Value.slice Am nm cm, .int .i64 wb, .int .i64 h0, .int .i64 h1, .slice Ac nc cc, .int .i64 wrh, .slice SA ns sc, .int .i64 lk, .slice SB nt sd, .int .i64 lj]) := by rw [← hX]; exact Lib.hid ((Blk.new' (by simp) _ _).alloc _)
            have HR0 : Hid (Blk X (w.heap.size + 1 + 1) 34 #[Value.int .i64 wt, .int .i64 mi, .int .i64 nom]) := by rw [← hX]; exact Lib.hid (Blk.new' (by simp) _ _)
            have cP0 := HP0.out.cell
            have mP0 := HP0.out.lt
            have cQ0 := HQ0.out.cell
            have mQ0 := HQ0.out.lt
            have cR0 := HR0.out.cell
            have mR0 := HR0.out.lt
            clear hX
            go_wp2_with (first | (go_at_call 4; (with_reducible refine (kFar1.out X B0.out).mono ?_); (rintro e v1 ⟨rfl, hb⟩); (have HP1 := Lib.hid (HP0.out.below hb HP0.out.lt)); (have cP1 := HP1.out.cell); (have mP1 := HP1.out.lt); (have HQ1 := Lib.hid (HQ0.out.below hb HQ0.out.lt)); (have cQ1 := HQ1.out.cell); (have mQ1 := HQ1.out.lt); (have HR1 := Lib.hid (HR0.out.below hb HR0.out.lt)); (have cR1 := HR1.out.cell); (have mR1 := HR1.out.lt); (have B1 := Lib.hid (B0.out.trans (hb.mono B0.out.size))); clear hb cP0 mP0 cQ0 mQ0 cR0 mR0) | (go_at_call 4; (with_reducible refine (kFar2.out v1 B1.out).mono ?_); (rintro e v2 ⟨rfl, hb⟩); (have HP2 := Lib.hid (HP1.out.below hb HP1.out.lt)); (have cP2 := HP2.out.cell); (have mP2 := HP2.out.lt); (have HQ2 := Lib.hid (HQ1.out.below hb HQ1.out.lt)); (have cQ2 := HQ2.out.cell); (have mQ2 := HQ2.out.lt); (have HR2 := Lib.hid (HR1.out.below hb HR1.out.lt)); (have cR2 := HR2.out.cell); (have mR2 := HR2.out.lt); (have B2 := Lib.hid (B1.out.trans (hb.mono B1.out.size))); clear hb cP1 mP1 cQ1 mQ1 cR1 mR1) | (go_at_call 5; (with_reducible refine (kChk1.out v2 B2.out).mono ?_); (rintro e v3 ⟨rfl, hb⟩); (have HP3 := Lib.hid (HP2.out.below hb HP2.out.lt)); (have cP3 := HP3.out.cell); (have mP3 := HP3.out.lt); (have HQ3 := Lib.hid (HQ2.out.below hb HQ2.out.lt)); (have cQ3 := HQ3.out.cell); (have mQ3 := HQ3.out.lt); (have HR3 := Lib.hid (HR2.out.below hb HR2.out.lt)); (have cR3 := HR3.out.cell); (have mR3 := HR3.out.lt); (have B3 := Lib.hid (B2.out.trans (hb.mono B2.out.size))); clear hb cP2 mP2 cQ2 mQ2 cR2 mR2) | (go_at_call 5; (with_reducible refine (kChk2.out v3 B3.out).mono ?_); (rintro e v4 ⟨rfl, hb⟩); (have HP4 := Lib.hid (HP3.out.below hb HP3.out.lt)); (have cP4 := HP4.out.cell); (have mP4 := HP4.out.lt); (have HQ4 := Lib.hid (HQ3.out.below hb HQ3.out.lt)); (have cQ4 := HQ4.out.cell); (have mQ4 := HQ4.out.lt); (have HR4 := Lib.hid (HR3.out.below hb HR3.out.lt)); (have cR4 := HR4.out.cell); (have mR4 := HR4.out.lt); (have B4 := Lib.hid (B3.out.trans (hb.mono B3.out.size))); clear hb cP3 mP3 cQ3 mQ3 cR3 mR3) | (go_at_call 8; refine (compared_c _).mono ?_; (rintro e v99 ⟨rfl, hb99⟩); (have B99 := Lib.hid (B4.out.trans (hb99.mono B4.out.size))); clear hb99))
            go_ret
            exact ⟨rfl, B99.out⟩
          exact topyard_mid Al nl cl wa l0 l1 Ab nb cb wrg lv bl Am nm cm wb h0 h1 Ac nc cc wrh lu bm SA ns sc us lk SB nt sd ut lj wt mi nom w HL HB HM HC HS HT hf1 hf2 hk1 hk2 g40 g41

end Go.Proofs.Ytcinhibmohkeiaa
