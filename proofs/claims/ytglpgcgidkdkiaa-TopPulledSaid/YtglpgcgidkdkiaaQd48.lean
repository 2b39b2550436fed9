/- TopPulled walked: for every input it returns true. -/
import Derived.Test.YtglpgcgidkdkiaaQd47
import Derived.Shelf.Abstract
import Derived.Laws.EntriesVeiled
import Derived.Handy
import Derived.Deep.DrawnRows
import Derived.Deep.DeepCutAuto
namespace Go.Proofs.Ytglpgcgidkdkiaa
open Go.RowKit
open Go.Sort (grow)
set_option linter.unusedVariables false
set_option linter.unusedSimpArgs false

set_option maxRecDepth 100000 in
set_option maxHeartbeats 6400000 in
theorem toppulled_c (Al : Option Addr) (nl cl : Nat) (wa l0 l1 : Int) (Ab : Option Addr) (nb cb : Nat) (wrg : Int) (lv : List Lv) (bl : List Bal) (SA : Option Addr) (ns sc : Nat) (us : List Int) (lk : Int) (A : Option Addr) (n c : Nat) (q : Cb) (ls : List Sp) (wt mi : Int) (w : World) (HL : LvsAt w Al nl lv) (HB : BasAt w Ab nb bl) (HS : IntsAt w SA ns us) (hq : CbOk q) (HC : SpsAt w A n ls) :
    Calls Try.prog 4 #[.agg #[.slice Al nl cl, .int .i64 wa, .int .i64 l0, .int .i64 l1, .slice Ab nb cb, .int .i64 wrg], .agg #[.slice SA ns sc, .int .i64 lk], .agg #[.slice A n c, .int .i64 q.need, .int .i64 q.gap, .int .i64 q.doubt, .int .i64 q.joins, .int .i64 q.least, .int .i64 wt, .int .i64 mi]] w fun e w' => e = .returned (.bool true) ∧ Below w.heap.size w w' := by
  have hll := HL.1
  have hbl := HB.1
  have hus := HS.1
  have HF30 := fun V (hV : Below w.heap.size w V) => Far3_c Al nl cl wa l0 l1 Ab nb cb wrg lv bl V (HL.later hV) (HB.later hV)
  cases hfar : far3 nl nb wa l0 l1 wrg lv bl
  case true =>
    rw [hfar] at HF30
    have HF3 := Lib.hid HF30
    clear HF30 hfar HL HB HS HC hll hbl hus hq
    obtain ⟨need, gap, doubt, joins, least⟩ := q
    simp only
    go_enter Try.func4, Try.ntmps4
    go_upto_region 1 with (fail)
    go_name_world X hX
    have B0 : Hid (Below w.heap.size w X) := Lib.hid (al3 hX).1
    have HP0 : Hid (Blk X w.heap.size 41 #[Value.slice Al nl cl, .int .i64 wa, .int .i64 l0, .int .i64 l1, .slice Ab nb cb, .int .i64 wrg]) := by rw [← hX]; exact Lib.hid (((Blk.new w _ _).alloc _).alloc _)
    have HQ0 : Hid (Blk X (w.heap.size + 1) 45 #[Value.slice SA ns sc, .int .i64 lk]) := by
      rw [← hX]
      have := (Blk.new (w.alloc (.cells #[Value.slice Al nl cl, .int .i64 wa, .int .i64 l0, .int .i64 l1, .slice Ab nb cb, .int .i64 wrg] 41)) 45 #[Value.slice SA ns sc, .int .i64 lk]).alloc (.cells #[Value.slice A n c, .int .i64 need, .int .i64 gap, .int .i64 doubt, .int .i64 joins, .int .i64 least, .int .i64 wt, .int .i64 mi] 50)
      rw [World.size_alloc] at this
      exact Lib.hid this
    have HR0 : Hid (Blk X (w.heap.size + 1 + 1) 50 #[Value.slice A n c, .int .i64 need, .int .i64 gap, .int .i64 doubt, .int .i64 joins, .int .i64 least, .int .i64 wt, .int .i64 mi]) := by
      rw [← hX]
      have := Blk.new ((w.alloc (.cells #[Value.slice Al nl cl, .int .i64 wa, .int .i64 l0, .int .i64 l1, .slice Ab nb cb, .int .i64 wrg] 41)).alloc (.cells #[Value.slice SA ns sc, .int .i64 lk] 45)) 50 #[Value.slice A n c, .int .i64 need, .int .i64 gap, .int .i64 doubt, .int .i64 joins, .int .i64 least, .int .i64 wt, .int .i64 mi]
      rw [World.size_alloc, World.size_alloc] at this
      exact Lib.hid this
    have cP0 := HP0.out.cell
    have mP0 := HP0.out.lt
    have cQ0 := HQ0.out.cell
    have mQ0 := HQ0.out.lt
    have cR0 := HR0.out.cell
    have mR0 := HR0.out.lt
    clear hX
    go_wp2_with (first | (go_at_call 12; (with_reducible refine (HF3.out X B0.out).mono ?_); (rintro e v1 ⟨rfl, hb⟩); (have HP1 := Lib.hid (HP0.out.below hb HP0.out.lt)); (have cP1 := HP1.out.cell); (have mP1 := HP1.out.lt); (have HQ1 := Lib.hid (HQ0.out.below hb HQ0.out.lt)); (have cQ1 := HQ1.out.cell); (have mQ1 := HQ1.out.lt); (have HR1 := Lib.hid (HR0.out.below hb HR0.out.lt)); (have cR1 := HR1.out.cell); (have mR1 := HR1.out.lt); (have B1 := Lib.hid (B0.out.trans (hb.mono B0.out.size))); clear hb cP0 mP0 cQ0 mQ0 cR0 mR0) | (go_at_call 17; refine (mended_c _).mono ?_; (rintro e v99 ⟨rfl, hb99⟩); (have B99 := Lib.hid (B1.out.trans (hb99.mono B1.out.size))); clear hb99))
    go_ret
    exact ⟨rfl, B99.out⟩
  case false =>
    rw [hfar] at HF30
    have HF3 := Lib.hid HF30
    obtain ⟨hn40, hb40⟩ := far3_no hfar
    have HK30 := fun V (hV : Below w.heap.size w V) => refCheck3_c Al nl cl wa l0 l1 Ab nb cb wrg lv bl V hn40 hb40 (HL.later hV) (HB.later hV)
    clear HF30 hfar
    cases hck : ckM nl nb wa l0 l1 wrg lv bl
    case false =>
      have HK3 : Hid (∀ V, Below w.heap.size w V → Calls Try.prog 13 #[.agg #[.slice Al nl cl, .int .i64 wa, .int .i64 l0, .int .i64 l1, .slice Ab nb cb, .int .i64 wrg]] V fun e w' => e = .returned (.int .i64 30) ∧ Below V.heap.size V w') := Lib.hid (fun V hV => by have := HK30 V hV; rw [hck] at this; exact this)
      clear HK30 hck HL HB HS HC hll hbl hus hq
      obtain ⟨need, gap, doubt, joins, least⟩ := q
      simp only
      go_enter Try.func4, Try.ntmps4
      go_upto_region 1 with (fail)
      go_name_world X hX
      have B0 : Hid (Below w.heap.size w X) := Lib.hid (al3 hX).1
      have HP0 : Hid (Blk X w.heap.size 41 #[Value.slice Al nl cl, .int .i64 wa, .int .i64 l0, .int .i64 l1, .slice Ab nb cb, .int .i64 wrg]) := by rw [← hX]; exact Lib.hid (((Blk.new w _ _).alloc _).alloc _)
      have HQ0 : Hid (Blk X (w.heap.size + 1) 45 #[Value.slice SA ns sc, .int .i64 lk]) := by
        rw [← hX]
        have := (Blk.new (w.alloc (.cells #[Value.slice Al nl cl, .int .i64 wa, .int .i64 l0, .int .i64 l1, .slice Ab nb cb, .int .i64 wrg] 41)) 45 #[Value.slice SA ns sc, .int .i64 lk]).alloc (.cells #[Value.slice A n c, .int .i64 need, .int .i64 gap, .int .i64 doubt, .int .i64 joins, .int .i64 least, .int .i64 wt, .int .i64 mi] 50)
        rw [World.size_alloc] at this
        exact Lib.hid this
      have HR0 : Hid (Blk X (w.heap.size + 1 + 1) 50 #[Value.slice A n c, .int .i64 need, .int .i64 gap, .int .i64 doubt, .int .i64 joins, .int .i64 least, .int .i64 wt, .int .i64 mi]) := by
        rw [← hX]
        have := Blk.new ((w.alloc (.cells #[Value.slice Al nl cl, .int .i64 wa, .int .i64 l0, .int .i64 l1, .slice Ab nb cb, .int .i64 wrg] 41)).alloc (.cells #[Value.slice SA ns sc, .int .i64 lk] 45)) 50 #[Value.slice A n c, .int .i64 need, .int .i64 gap, .int .i64 doubt, .int .i64 joins, .int .i64 least, .int .i64 wt, .int .i64 mi]
        rw [World.size_alloc, World.size_alloc] at this
        exact Lib.hid this
      have cP0 := HP0.out.cell
      have mP0 := HP0.out.lt
      have cQ0 := HQ0.out.cell
      have mQ0 := HQ0.out.lt
      have cR0 := HR0.out.cell
      have mR0 := HR0.out.lt
      clear hX
      go_wp2_with (first | (go_at_call 12; (with_reducible refine (HF3.out X B0.out).mono ?_); (rintro e v1 ⟨rfl, hb⟩); (have HP1 := Lib.hid (HP0.out.below hb HP0.out.lt)); (have cP1 := HP1.out.cell); (have mP1 := HP1.out.lt); (have HQ1 := Lib.hid (HQ0.out.below hb HQ0.out.lt)); (have cQ1 := HQ1.out.cell); (have mQ1 := HQ1.out.lt); (have HR1 := Lib.hid (HR0.out.below hb HR0.out.lt)); (have cR1 := HR1.out.cell); (have mR1 := HR1.out.lt); (have B1 := Lib.hid (B0.out.trans (hb.mono B0.out.size))); clear hb cP0 mP0 cQ0 mQ0 cR0 mR0) | (go_at_call 13; (with_reducible refine (HK3.out v1 B1.out).mono ?_); (rintro e v2 ⟨rfl, hb⟩); (have HP2 := Lib.hid (HP1.out.below hb HP1.out.lt)); (have cP2 := HP2.out.cell); (have mP2 := HP2.out.lt); (have HQ2 := Lib.hid (HQ1.out.below hb HQ1.out.lt)); (have cQ2 := HQ2.out.cell); (have mQ2 := HQ2.out.lt); (have HR2 := Lib.hid (HR1.out.below hb HR1.out.lt)); (have cR2 := HR2.out.cell); (have mR2 := HR2.out.lt); (have B2 := Lib.hid (B1.out.trans (hb.mono B1.out.size))); clear hb cP1 mP1 cQ1 mQ1 cR1 mR1) | (go_at_call 17; refine (mended_c _).mono ?_; (rintro e v99 ⟨rfl, hb99⟩); (have B99 := Lib.hid (B2.out.trans (hb99.mono B2.out.size))); clear hb99))
      go_ret
      exact ⟨rfl, B99.out⟩
    case true =>
      have HK3 : Hid (∀ V, Below w.heap.size w V → Calls Try.prog 13 #[.agg #[.slice Al nl cl, .int .i64 wa, .int .i64 l0, .int .i64 l1, .slice Ab nb cb, .int .i64 wrg]] V fun e w' => e = .returned (.int .i64 0) ∧ Below V.heap.size V w') := Lib.hid (fun V hV => by have := HK30 V hV; rw [hck] at this; exact this)
      clear HK30
      by_cases g40 : (40 : Int) < ns
      · have gB : decide ((40 : Int) < ns) = true := decide_eq_true g40
        clear hck HL HB HS HC hll hbl hus hq
        obtain ⟨need, gap, doubt, joins, least⟩ := q
        simp only
        go_enter Try.func4, Try.ntmps4
        go_upto_region 1 with (fail)
        go_name_world X hX
        have B0 : Hid (Below w.heap.size w X) := Lib.hid (al3 hX).1
        have HP0 : Hid (Blk X w.heap.size 41 #[Value.slice Al nl cl, .int .i64 wa, .int .i64 l0, .int .i64 l1, .slice Ab nb cb, .int .i64 wrg]) := by rw [← hX]; exact Lib.hid (((Blk.new w _ _).alloc _).alloc _)
        have HQ0 : Hid (Blk X (w.heap.size + 1) 45 #[Value.slice SA ns sc, .int .i64 lk]) := by
          rw [← hX]
          have := (Blk.new (w.alloc (.cells #[Value.slice Al nl cl, .int .i64 wa, .int .i64 l0, .int .i64 l1, .slice Ab nb cb, .int .i64 wrg] 41)) 45 #[Value.slice SA ns sc, .int .i64 lk]).alloc (.cells #[Value.slice A n c, .int .i64 need, .int .i64 gap, .int .i64 doubt, .int .i64 joins, .int .i64 least, .int .i64 wt, .int .i64 mi] 50)
          rw [World.size_alloc] at this
          exact Lib.hid this
        have HR0 : Hid (Blk X (w.heap.size + 1 + 1) 50 #[Value.slice A n c, .int .i64 need, .int .i64 gap, .int .i64 doubt, .int .i64 joins, .int .i64 least, .int .i64 wt, .int .i64 mi]) := by
          rw [← hX]
          have := Blk.new ((w.alloc (.cells #[Value.slice Al nl cl, .int .i64 wa, .int .i64 l0, .int .i64 l1, .slice Ab nb cb, .int .i64 wrg] 41)).alloc (.cells #[Value.slice SA ns sc, .int .i64 lk] 45)) 50 #[Value.slice A n c, .int .i64 need, .int .i64 gap, .int .i64 doubt, .int .i64 joins, .int .i64 least, .int .i64 wt, .int .i64 mi]
          rw [World.size_alloc, World.size_alloc] at this
          exact Lib.hid this
        have cP0 := HP0.out.cell
        have mP0 := HP0.out.lt
        have cQ0 := HQ0.out.cell
        have mQ0 := HQ0.out.lt
        have cR0 := HR0.out.cell
        have mR0 := HR0.out.lt
        clear hX
        go_wp2_with (first | (go_at_call 12; (with_reducible refine (HF3.out X B0.out).mono ?_); (rintro e v1 ⟨rfl, hb⟩); (have HP1 := Lib.hid (HP0.out.below hb HP0.out.lt)); (have cP1 := HP1.out.cell); (have mP1 := HP1.out.lt); (have HQ1 := Lib.hid (HQ0.out.below hb HQ0.out.lt)); (have cQ1 := HQ1.out.cell); (have mQ1 := HQ1.out.lt); (have HR1 := Lib.hid (HR0.out.below hb HR0.out.lt)); (have cR1 := HR1.out.cell); (have mR1 := HR1.out.lt); (have B1 := Lib.hid (B0.out.trans (hb.mono B0.out.size))); clear hb cP0 mP0 cQ0 mQ0 cR0 mR0) | (go_at_call 13; (with_reducible refine (HK3.out v1 B1.out).mono ?_); (rintro e v2 ⟨rfl, hb⟩); (have HP2 := Lib.hid (HP1.out.below hb HP1.out.lt)); (have cP2 := HP2.out.cell); (have mP2 := HP2.out.lt); (have HQ2 := Lib.hid (HQ1.out.below hb HQ1.out.lt)); (have cQ2 := HQ2.out.cell); (have mQ2 := HQ2.out.lt); (have HR2 := Lib.hid (HR1.out.below hb HR1.out.lt)); (have cR2 := HR2.out.cell); (have mR2 := HR2.out.lt); (have B2 := Lib.hid (B1.out.trans (hb.mono B1.out.size))); clear hb cP1 mP1 cQ1 mQ1 cR1 mR1) | (go_at_call 17; refine (mended_c _).mono ?_; (rintro e v99 ⟨rfl, hb99⟩); (have B99 := Lib.hid (B2.out.trans (hb99.mono B2.out.size))); clear hb99))
        go_ret
        exact ⟨rfl, B99.out⟩
      have g40B : decide ((40 : Int) < ns) = false := decide_eq_false g40
      obtain ⟨ok, hlg⟩ := okM_of hck hll hbl
      have HT30 := fun V (hV : Below w.heap.size w V) => IsTruth3_c (Al := Al) (cl := cl) (Ab := Ab) (cb := cb) (SA := SA) (sc := sc) (lk := lk) (ns := ns) (w := V) (hns := by omega) (ok := ok) (hlg := hlg) (HL := HL.later hV) (HB := HB.later hV) (HS := HS.later hV)
      clear ok hlg
      cases htr : isT3 nl nb wa l0 l1 wrg (abK lv nl) lv bl us lk
      case false =>
        rw [htr] at HT30
        have HT3 := Lib.hid HT30
        clear HT30 htr hck HL HB HS HC hll hbl hus hq
        obtain ⟨need, gap, doubt, joins, least⟩ := q
        simp only
        go_enter Try.func4, Try.ntmps4
        go_upto_region 1 with (fail)
        go_name_world X hX
        have B0 : Hid (Below w.heap.size w X) := Lib.hid (al3 hX).1
        have HP0 : Hid (Blk X w.heap.size 41 #[Value.slice Al nl cl, .int .i64 wa, .int .i64 l0, .int .i64 l1, .slice Ab nb cb, .int .i64 wrg]) := by rw [← hX]; exact Lib.hid (((Blk.new w _ _).alloc _).alloc _)
        have HQ0 : Hid (Blk X (w.heap.size + 1) 45 #[Value.slice SA ns sc, .int .i64 lk]) := by
          rw [← hX]
          have := (Blk.new (w.alloc (.cells #[Value.slice Al nl cl, .int .i64 wa, .int .i64 l0, .int .i64 l1, .slice Ab nb cb, .int .i64 wrg] 41)) 45 #[Value.slice SA ns sc, .int .i64 lk]).alloc (.cells #[Value.slice A n c, .int .i64 need, .int .i64 gap, .int .i64 doubt, .int .i64 joins, .int .i64 least, .int .i64 wt, .int .i64 mi] 50)
          rw [World.size_alloc] at this
          exact Lib.hid this
        have HR0 : Hid (Blk X (w.heap.size + 1 + 1) 50 #[Value.slice A n c, .int .i64 need, .int .i64 gap, .int .i64 doubt, .int .i64 joins, .int .i64 least, .int .i64 wt, .int .i64 mi]) := by
          rw [← hX]
          have := Blk.new ((w.alloc (.cells #[Value.slice Al nl cl, .int .i64 wa, .int .i64 l0, .int .i64 l1, .slice Ab nb cb, .int .i64 wrg] 41)).alloc (.cells #[Value.slice SA ns sc, .int .i64 lk] 45)) 50 #[Value.slice A n c, .int .i64 need, .int .i64 gap, .int .i64 doubt, .int .i64 joins, .int .i64 least, .int .i64 wt, .int .i64 mi]
          rw [World.size_alloc, World.size_alloc] at this
          exact Lib.hid this
        have cP0 := HP0.out.cell
        have mP0 := HP0.out.lt
        have cQ0 := HQ0.out.cell
        have mQ0 := HQ0.out.lt
        have cR0 := HR0.out.cell
        have mR0 := HR0.out.lt
        clear hX
        go_wp2_with (first | (go_at_call 12; (with_reducible refine (HF3.out X B0.out).mono ?_); (rintro e v1 ⟨rfl, hb⟩); (have HP1 := Lib.hid (HP0.out.below hb HP0.out.lt)); (have cP1 := HP1.out.cell); (have mP1 := HP1.out.lt); (have HQ1 := Lib.hid (HQ0.out.below hb HQ0.out.lt)); (have cQ1 := HQ1.out.cell); (have mQ1 := HQ1.out.lt); (have HR1 := Lib.hid (HR0.out.below hb HR0.out.lt)); (have cR1 := HR1.out.cell); (have mR1 := HR1.out.lt); (have B1 := Lib.hid (B0.out.trans (hb.mono B0.out.size))); clear hb cP0 mP0 cQ0 mQ0 cR0 mR0) | (go_at_call 13; (with_reducible refine (HK3.out v1 B1.out).mono ?_); (rintro e v2 ⟨rfl, hb⟩); (have HP2 := Lib.hid (HP1.out.below hb HP1.out.lt)); (have cP2 := HP2.out.cell); (have mP2 := HP2.out.lt); (have HQ2 := Lib.hid (HQ1.out.below hb HQ1.out.lt)); (have cQ2 := HQ2.out.cell); (have mQ2 := HQ2.out.lt); (have HR2 := Lib.hid (HR1.out.below hb HR1.out.lt)); (have cR2 := HR2.out.cell); (have mR2 := HR2.out.lt); (have B2 := Lib.hid (B1.out.trans (hb.mono B1.out.size))); clear hb cP1 mP1 cQ1 mQ1 cR1 mR1) | (go_at_call 14; (with_reducible refine (HT3.out v2 B2.out).mono ?_); (rintro e v3 ⟨rfl, hb⟩); (have HP3 := Lib.hid (HP2.out.below hb HP2.out.lt)); (have cP3 := HP3.out.cell); (have mP3 := HP3.out.lt); (have HQ3 := Lib.hid (HQ2.out.below hb HQ2.out.lt)); (have cQ3 := HQ3.out.cell); (have mQ3 := HQ3.out.lt); (have HR3 := Lib.hid (HR2.out.below hb HR2.out.lt)); (have cR3 := HR3.out.cell); (have mR3 := HR3.out.lt); (have B3 := Lib.hid (B2.out.trans (hb.mono B2.out.size))); clear hb cP2 mP2 cQ2 mQ2 cR2 mR2) | (go_at_call 17; refine (mended_c _).mono ?_; (rintro e v99 ⟨rfl, hb99⟩); (have B99 := Lib.hid (B3.out.trans (hb99.mono B3.out.size))); clear hb99))
        go_ret
        exact ⟨rfl, B99.out⟩
      case true =>
        rw [htr] at HT30
        have HT3 := Lib.hid HT30
        clear HT30
        cases hak : ask3 wt mi 0
        case false =>
          clear htr hck HL HB HS HC hll hbl hus hq
          obtain ⟨need, gap, doubt, joins, least⟩ := q
          simp only
          go_enter Try.func4, Try.ntmps4
          go_upto_region 1 with (fail)
          go_name_world X hX
          have B0 : Hid (Below w.heap.size w X) := Lib.hid (al3 hX).1
          have HP0 : Hid (Blk X w.heap.size 41 #[Value.slice Al nl cl, .int .i64 wa, .int .i64 l0, .int .i64 l1, .slice Ab nb cb, .int .i64 wrg]) := by rw [← hX]; exact Lib.hid (((Blk.new w _ _).alloc _).alloc _)
          have HQ0 : Hid (Blk X (w.heap.size + 1) 45 #[Value.slice SA ns sc, .int .i64 lk]) := by
            rw [← hX]
            have := (Blk.new (w.alloc (.cells #[Value.slice Al nl cl, .int .i64 wa, .int .i64 l0, .int .i64 l1, .slice Ab nb cb, .int .i64 wrg] 41)) 45 #[Value.slice SA ns sc, .int .i64 lk]).alloc (.cells #[Value.slice A n c, .int .i64 need, .int .i64 gap, .int .i64 doubt, .int .i64 joins, .int .i64 least, .int .i64 wt, .int .i64 mi] 50)
            rw [World.size_alloc] at this
            exact Lib.hid this
          have HR0 : Hid (Blk X (w.heap.size + 1 + 1) 50 #[Value.slice A n c, .int .i64 need, .int .i64 gap, .int .i64 doubt, .int .i64 joins, .int .i64 least, .int .i64 wt, .int .i64 mi]) := by
            rw [← hX]
            have := Blk.new ((w.alloc (.cells #[Value.slice Al nl cl, .int .i64 wa, .int .i64 l0, .int .i64 l1, .slice Ab nb cb, .int .i64 wrg] 41)).alloc (.cells #[Value.slice SA ns sc, .int .i64 lk] 45)) 50 #[Value.slice A n c, .int .i64 need, .int .i64 gap, .int .i64 doubt, .int .i64 joins, .int .i64 least, .int .i64 wt, .int .i64 mi]
            rw [World.size_alloc, World.size_alloc] at this
            exact Lib.hid this
          have cP0 := HP0.out.cell
          have mP0 := HP0.out.lt
          have cQ0 := HQ0.out.cell
          have mQ0 := HQ0.out.lt
          have cR0 := HR0.out.cell
          have mR0 := HR0.out.lt
          clear hX
          go_wp2_with (first | (go_at_call 12; (with_reducible refine (HF3.out X B0.out).mono ?_); (rintro e v1 ⟨rfl, hb⟩); (have HP1 := Lib.hid (HP0.out.below hb HP0.out.lt)); (have cP1 := HP1.out.cell); (have mP1 := HP1.out.lt); (have HQ1 := Lib.hid (HQ0.out.below hb HQ0.out.lt)); (have cQ1 := HQ1.out.cell); (have mQ1 := HQ1.out.lt); (have HR1 := Lib.hid (HR0.out.below hb HR0.out.lt)); (have cR1 := HR1.out.cell); (have mR1 := HR1.out.lt); (have B1 := Lib.hid (B0.out.trans (hb.mono B0.out.size))); clear hb cP0 mP0 cQ0 mQ0 cR0 mR0) | (go_at_call 13; (with_reducible refine (HK3.out v1 B1.out).mono ?_); (rintro e v2 ⟨rfl, hb⟩); (have HP2 := Lib.hid (HP1.out.below hb HP1.out.lt)); (have cP2 := HP2.out.cell); (have mP2 := HP2.out.lt); (have HQ2 := Lib.hid (HQ1.out.below hb HQ1.out.lt)); (have cQ2 := HQ2.out.cell); (have mQ2 := HQ2.out.lt); (have HR2 := Lib.hid (HR1.out.below hb HR1.out.lt)); (have cR2 := HR2.out.cell); (have mR2 := HR2.out.lt); (have B2 := Lib.hid (B1.out.trans (hb.mono B1.out.size))); clear hb cP1 mP1 cQ1 mQ1 cR1 mR1) | (go_at_call 14; (with_reducible refine (HT3.out v2 B2.out).mono ?_); (rintro e v3 ⟨rfl, hb⟩); (have HP3 := Lib.hid (HP2.out.below hb HP2.out.lt)); (have cP3 := HP3.out.cell); (have mP3 := HP3.out.lt); (have HQ3 := Lib.hid (HQ2.out.below hb HQ2.out.lt)); (have cQ3 := HQ3.out.cell); (have mQ3 := HQ3.out.lt); (have HR3 := Lib.hid (HR2.out.below hb HR2.out.lt)); (have cR3 := HR3.out.cell); (have mR3 := HR3.out.lt); (have B3 := Lib.hid (B2.out.trans (hb.mono B2.out.size))); clear hb cP2 mP2 cQ2 mQ2 cR2 mR2) | (go_at_call 7; (with_reducible refine (refAsk3_c wt mi 0 _).mono ?_); (rintro e v0 ⟨rfl, rfl⟩); simp only [hak]) | (go_at_call 17; refine (mended_c _).mono ?_; (rintro e v99 ⟨rfl, hb99⟩); (have B99 := Lib.hid (B3.out.trans (hb99.mono B3.out.size))); clear hb99))
          go_ret
          exact ⟨rfl, B99.out⟩
        case true =>
          have HF70 := fun V (hV : Below w.heap.size w V) => Far_c_q7 A n c q ls V (HC.later hV)
          cases hf7 : farC n ls q
          case true =>
            rw [hf7] at HF70
            clear htr hck HL HB HS HC hll hbl hus hq
            obtain ⟨need, gap, doubt, joins, least⟩ := q
            simp only at HF70 ⊢
            have HF7 := Lib.hid HF70
            clear HF70 hf7
            go_enter Try.func4, Try.ntmps4
            go_upto_region 1 with (fail)
            go_name_world X hX
            have B0 : Hid (Below w.heap.size w X) := Lib.hid (al3 hX).1
            have HP0 : Hid (Blk X w.heap.size 41 #[Value.slice Al nl cl, .int .i64 wa, .int .i64 l0, .int .i64 l1, .slice Ab nb cb, .int .i64 wrg]) := by rw [← hX]; exact Lib.hid (((Blk.new w _ _).alloc _).alloc _)
            have HQ0 : Hid (Blk X (w.heap.size + 1) 45 #[Value.slice SA ns sc, .int .i64 lk]) := by
              rw [← hX]
              have := (Blk.new (w.alloc (.cells #[Value.slice Al nl cl, .int .i64 wa, .int .i64 l0, .int .i64 l1, .slice Ab nb cb, .int .i64 wrg] 41)) 45 #[Value.slice SA ns sc, .int .i64 lk]).alloc (.cells #[Value.slice A n c, .int .i64 need, .int .i64 gap, .int .i64 doubt, .int .i64 joins, .int .i64 least, .int .i64 wt, .int .i64 mi] 50)
              rw [World.size_alloc] at this
              exact Lib.hid this
            have HR0 : Hid (Blk X (w.heap.size + 1 + 1) 50 #[Value.slice A n c, .int .i64 need, .int .i64 gap, .int .i64 doubt, .int .i64 joins, .int .i64 least, .int .i64 wt, .int .i64 mi]) := by
              rw [← hX]
              have := Blk.new ((w.alloc (.cells #[Value.slice Al nl cl, .int .i64 wa, .int .i64 l0, .int .i64 l1, .slice Ab nb cb, .int .i64 wrg] 41)).alloc (.cells #[Value.slice SA ns sc, .int .i64 lk] 45)) 50 #[Value.slice A n c, .int .i64 need, .int .i64 gap, .int .i64 doubt, .int .i64 joins, .int .i64 least, .int .i64 wt, .int .i64 mi]
              rw [World.size_alloc, World.size_alloc] at this
              exact Lib.hid this
            have cP0 := HP0.out.cell
            have mP0 := HP0.out.lt
            have cQ0 := HQ0.out.cell
            have mQ0 := HQ0.out.lt
            have cR0 := HR0.out.cell
            have mR0 := HR0.out.lt
            clear hX
            go_wp2_with (first | (go_at_call 12; (with_reducible refine (HF3.out X B0.out).mono ?_); (rintro e v1 ⟨rfl, hb⟩); (have HP1 := Lib.hid (HP0.out.below hb HP0.out.lt)); (have cP1 := HP1.out.cell); (have mP1 := HP1.out.lt); (have HQ1 := Lib.hid (HQ0.out.below hb HQ0.out.lt)); (have cQ1 := HQ1.out.cell); (have mQ1 := HQ1.out.lt); (have HR1 := Lib.hid (HR0.out.below hb HR0.out.lt)); (have cR1 := HR1.out.cell); (have mR1 := HR1.out.lt); (have B1 := Lib.hid (B0.out.trans (hb.mono B0.out.size))); clear hb cP0 mP0 cQ0 mQ0 cR0 mR0) | (go_at_call 13; (with_reducible refine (HK3.out v1 B1.out).mono ?_); (rintro e v2 ⟨rfl, hb⟩); (have HP2 := Lib.hid (HP1.out.below hb HP1.out.lt)); (have cP2 := HP2.out.cell); (have mP2 := HP2.out.lt); (have HQ2 := Lib.hid (HQ1.out.below hb HQ1.out.lt)); (have cQ2 := HQ2.out.cell); (have mQ2 := HQ2.out.lt); (have HR2 := Lib.hid (HR1.out.below hb HR1.out.lt)); (have cR2 := HR2.out.cell); (have mR2 := HR2.out.lt); (have B2 := Lib.hid (B1.out.trans (hb.mono B1.out.size))); clear hb cP1 mP1 cQ1 mQ1 cR1 mR1) | (go_at_call 14; (with_reducible refine (HT3.out v2 B2.out).mono ?_); (rintro e v3 ⟨rfl, hb⟩); (have HP3 := Lib.hid (HP2.out.below hb HP2.out.lt)); (have cP3 := HP3.out.cell); (have mP3 := HP3.out.lt); (have HQ3 := Lib.hid (HQ2.out.below hb HQ2.out.lt)); (have cQ3 := HQ3.out.cell); (have mQ3 := HQ3.out.lt); (have HR3 := Lib.hid (HR2.out.below hb HR2.out.lt)); (have cR3 := HR3.out.cell); (have mR3 := HR3.out.lt); (have B3 := Lib.hid (B2.out.trans (hb.mono B2.out.size))); clear hb cP2 mP2 cQ2 mQ2 cR2 mR2) | (go_at_call 7; (with_reducible refine (refAsk3_c wt mi 0 _).mono ?_); (rintro e v0 ⟨rfl, rfl⟩); simp only [hak]) | (go_at_call 15; (with_reducible refine (HF7.out v3 B3.out).mono ?_); (rintro e v4 ⟨rfl, hb⟩); (have HP4 := Lib.hid (HP3.out.below hb HP3.out.lt)); (have cP4 := HP4.out.cell); (have mP4 := HP4.out.lt); (have HQ4 := Lib.hid (HQ3.out.below hb HQ3.out.lt)); (have cQ4 := HQ4.out.cell); (have mQ4 := HQ4.out.lt); (have HR4 := Lib.hid (HR3.out.below hb HR3.out.lt)); (have cR4 := HR4.out.cell); (have mR4 := HR4.out.lt); (have B4 := Lib.hid (B3.out.trans (hb.mono B3.out.size))); clear hb cP3 mP3 cQ3 mQ3 cR3 mR3) | (go_at_call 17; refine (mended_c _).mono ?_; (rintro e v99 ⟨rfl, hb99⟩); (have B99 := Lib.hid (B4.out.trans (hb99.mono B4.out.size))); clear hb99))
            go_ret
            exact ⟨rfl, B99.out⟩
          case false =>
            rw [hf7] at HF70
            have hn : n ≤ 40 := by
              simp only [farC, Bool.or_eq_false_iff, decide_eq_false_iff_not] at hf7
              omega
            have HK70 := fun V (hV : Below w.heap.size w V) => refCheck_c_q7 A n c q ls V hn (HC.later hV)
            cases hc7 : ckC n ls q
            case false =>
              rw [hc7] at HK70
              clear htr hck HL HB HS HC hll hbl hus hq hc7 hf7
              obtain ⟨need, gap, doubt, joins, least⟩ := q
              simp only at HF70 HK70 ⊢
              have HF7 := Lib.hid HF70
              clear HF70
              have HK7 : Hid (∀ V, Below w.heap.size w V → Calls Try.prog 16 #[.agg #[.slice A n c, .int .i64 need, .int .i64 gap, .int .i64 doubt, .int .i64 joins, .int .i64 least]] V fun e w' => e = .returned (.int .i64 70) ∧ Below V.heap.size V w') := Lib.hid (fun V hV => HK70 V hV)
              clear HK70
              go_enter Try.func4, Try.ntmps4
              go_upto_region 1 with (fail)
              go_name_world X hX
              have B0 : Hid (Below w.heap.size w X) := Lib.hid (al3 hX).1
              have HP0 : Hid (Blk X w.heap.size 41 #[Value.slice Al nl cl, .int .i64 wa, .int .i64 l0, .int .i64 l1, .slice Ab nb cb, .int .i64 wrg]) := by rw [← hX]; exact Lib.hid (((Blk.new w _ _).alloc _).alloc _)
              have HQ0 : Hid (Blk X (w.heap.size + 1) 45 #[Value.slice SA ns sc, .int .i64 lk]) := by
                rw [← hX]
                have := (Blk.new (w.alloc (.cells #[Value.slice Al nl cl, .int .i64 wa, .int .i64 l0, .int .i64 l1, .slice Ab nb cb, .int .i64 wrg] 41)) 45 #[Value.slice SA ns sc, .int .i64 lk]).alloc (.cells #[Value.slice A n c, .int .i64 need, .int .i64 gap, .int .i64 doubt, .int .i64 joins, .int .i64 least, .int .i64 wt, .int .i64 mi] 50)
                rw [World.size_alloc] at this
                exact Lib.hid this
              have HR0 : Hid (Blk X (w.heap.size + 1 + 1) 50 #[Value.slice A n c, .int .i64 need, .int .i64 gap, .int .i64 doubt, .int .i64 joins, .int .i64 least, .int .i64 wt, .int .i64 mi]) := by
                rw [← hX]
                have := Blk.new ((w.alloc (.cells #[Value.slice Al nl cl, .int .i64 wa, .int .i64 l0, .int .i64 l1, .slice Ab nb cb, .int .i64 wrg] 41)).alloc (.cells #[Value.slice SA ns sc, .int .i64 lk] 45)) 50 #[Value.slice A n c, .int .i64 need, .int .i64 gap, .int .i64 doubt, .int .i64 joins, .int .i64 least, .int .i64 wt, .int .i64 mi]
                rw [World.size_alloc, World.size_alloc] at this
                exact Lib.hid this
              have cP0 := HP0.out.cell
              have mP0 := HP0.out.lt
              have cQ0 := HQ0.out.cell
              have mQ0 := HQ0.out.lt
              have cR0 := HR0.out.cell
              have mR0 := HR0.out.lt
              clear hX
              go_wp2_with (first | (go_at_call 12; (with_reducible refine (HF3.out X B0.out).mono ?_); (rintro e v1 ⟨rfl, hb⟩); (have HP1 := Lib.hid (HP0.out.below hb HP0.out.lt)); (have cP1 := HP1.out.cell); (have mP1 := HP1.out.lt); (have HQ1 := Lib.hid (HQ0.out.below hb HQ0.out.lt)); (have cQ1 := HQ1.out.cell); (have mQ1 := HQ1.out.lt); (have HR1 := Lib.hid (HR0.out.below hb HR0.out.lt)); (have cR1 := HR1.out.cell); (have mR1 := HR1.out.lt); (have B1 := Lib.hid (B0.out.trans (hb.mono B0.out.size))); clear hb cP0 mP0 cQ0 mQ0 cR0 mR0) | (go_at_call 13; (with_reducible refine (HK3.out v1 B1.out).mono ?_); (rintro e v2 ⟨rfl, hb⟩); (have HP2 := Lib.hid (HP1.out.below hb HP1.out.lt)); (have cP2 := HP2.out.cell); (have mP2 := HP2.out.lt); (have HQ2 := Lib.hid (HQ1.out.below hb HQ1.out.lt)); (have cQ2 := HQ2.out.cell); (have mQ2 := HQ2.out.lt); (have HR2 := Lib.hid (HR1.out.below hb HR1.out.lt)); (have cR2 := HR2.out.cell); (have mR2 := HR2.out.lt); (have B2 := Lib.hid (B1.out.trans (hb.mono B1.out.size))); clear hb cP1 mP1 cQ1 mQ1 cR1 mR1) | (go_at_call 14; (with_reducible refine (HT3.out v2 B2.out).mono ?_); (rintro e v3 ⟨rfl, hb⟩); (have HP3 := Lib.hid (HP2.out.below hb HP2.out.lt)); (have cP3 := HP3.out.cell); (have mP3 := HP3.out.lt); (have HQ3 := Lib.hid (HQ2.out.below hb HQ2.out.lt)); (have cQ3 := HQ3.out.cell); (have mQ3 := HQ3.out.lt); (have HR3 := Lib.hid (HR2.out.below hb HR2.out.lt)); (have cR3 := HR3.out.cell); (have mR3 := HR3.out.lt); (have B3 := Lib.hid (B2.out.trans (hb.mono B2.out.size))); clear hb cP2 mP2 cQ2 mQ2 cR2 mR2) | (go_at_call 7; (with_reducible refine (refAsk3_c wt mi 0 _).mono ?_); (rintro e v0 ⟨rfl, rfl⟩); simp only [hak]) | (go_at_call 15; (with_reducible refine (HF7.out v3 B3.out).mono ?_); (rintro e v4 ⟨rfl, hb⟩); (have HP4 := Lib.hid (HP3.out.below hb HP3.out.lt)); (have cP4 := HP4.out.cell); (have mP4 := HP4.out.lt); (have HQ4 := Lib.hid (HQ3.out.below hb HQ3.out.lt)); (have cQ4 := HQ4.out.cell); (have mQ4 := HQ4.out.lt); (have HR4 := Lib.hid (HR3.out.below hb HR3.out.lt)); (have cR4 := HR4.out.cell); (have mR4 := HR4.out.lt); (have B4 := Lib.hid (B3.out.trans (hb.mono B3.out.size))); clear hb cP3 mP3 cQ3 mQ3 cR3 mR3) | (go_at_call 16; (with_reducible refine (HK7.out v4 B4.out).mono ?_); (rintro e v5 ⟨rfl, hb⟩); (have HP5 := Lib.hid (HP4.out.below hb HP4.out.lt)); (have cP5 := HP5.out.cell); (have mP5 := HP5.out.lt); (have HQ5 := Lib.hid (HQ4.out.below hb HQ4.out.lt)); (have cQ5 := HQ5.out.cell); (have mQ5 := HQ5.out.lt); (have HR5 := Lib.hid (HR4.out.below hb HR4.out.lt)); (have cR5 := HR5.out.cell); (have mR5 := HR5.out.lt); (have B5 := Lib.hid (B4.out.trans (hb.mono B4.out.size))); clear hb cP4 mP4 cQ4 mQ4 cR4 mR4) | (go_at_call 17; refine (mended_c _).mono ?_; (rintro e v99 ⟨rfl, hb99⟩); (have B99 := Lib.hid (B5.out.trans (hb99.mono B5.out.size))); clear hb99))
              go_ret
              exact ⟨rfl, B99.out⟩
            case true =>
              rw [hc7] at HK70
              obtain ⟨s0, s1, e0, e1, e2, hs0, hs1, hnum, hden⟩ := ldP_truth hck hll hbl hak htr
              obtain ⟨h1, har, hlk, hn3, hwa, hdB⟩ := isT3_arms hck hll hbl htr
              obtain rfl : nl = ns := by omega
              have hw : (0 ≤ wt ∧ wt ≤ 9999) ∧ 0 ≤ mi ∧ mi ≤ 99 := by
                have := hak
                unfold ask3 at this
                simp only [Bool.and_eq_true, wn_true] at this
                omega
              have HLD := Lib.hid (fun V (hV : Below w.heap.size w V) => Load_c Al nl cl wa l0 l1 Ab nb cb wrg lv bl wt mi V hn40 hb40 (HL.later hV) (HB.later hV))
              rw [e0, e1, e2] at HLD
              have HLO := Lib.hid (fun V (hV : Below w.heap.size w V) => LoadOf3_c (Al := Al) (cl := cl) (l0 := l0) (l1 := l1) (Ab := Ab) (nb := nb) (cb := cb) (wrg := wrg) (SA := SA) (sc := sc) (wt := wt) (mi := mi) (w := V) (hn3 := hn3) (hll := hll) (har := har) (hwa := hwa) (hlk := hlk) (hwt := hw.1) (hmi := hw.2) (HL := HL.later hV) (HS := HS.later hV))
              obtain ⟨num, hnu⟩ : ∃ x, pl3 wa lk wt mi * abK lv nl = x := ⟨_, rfl⟩
              obtain ⟨den, hde⟩ : ∃ x, prS3 us 0 nl = x := ⟨_, rfl⟩
              rw [hnu, hde] at hnum HLO
              rw [hde] at hden hdB
              have HCP := Lib.hid (fun V (hV : Below w.heap.size w V) => Copy_c_q7 A n c q ls V hn (HC.later hV))
              have HCL := Lib.hid (fun k (hk : k < n) => ckC_lo hc7 hk)
              have HQK : Hid (CbOk { q with need := s1, doubt := 0 }) := Lib.hid ⟨⟨by show (-9223372036854775808 : Int) ≤ 0; omega, by show (0 : Int) ≤ 9223372036854775807; omega⟩, hq.2⟩
              have HCW := Lib.hid (fun (h : 0 ≤ s1 ∧ s1 ≤ 9999) => ckC_with hc7 h)
              have HLS := Lib.hid HC.1
              clear e0 e1 e2 h1 har hlk hn3 hwa hnu hde htr hck HL HB HS HC hll hbl hus hq hc7 hf7 g40
              obtain ⟨need, gap, doubt, joins, least⟩ := q
              simp only at HF70 HK70 HCP HQK HCW ⊢
              have HF7 := Lib.hid HF70
              clear HF70
              have HK7 : Hid (∀ V, Below w.heap.size w V → Calls Try.prog 16 #[.agg #[.slice A n c, .int .i64 need, .int .i64 gap, .int .i64 doubt, .int .i64 joins, .int .i64 least]] V fun e w' => e = .returned (.int .i64 0) ∧ Below V.heap.size V w') := Lib.hid (fun V hV => HK70 V hV)
              clear HK70
              have d0 : decide (s0 < 0) = false := decide_eq_false (by omega)
              have d1 : decide (s1 < s0) = false := decide_eq_false (by omega)
              by_cases gh : 9999 < s1
              case pos =>
                have ghB : decide (9999 < s1) = true := decide_eq_true gh
                clear HCW HLO HCP HCL HQK HLS
                go_enter Try.func4, Try.ntmps4
                go_upto_region 1 with (fail)
                go_name_world X hX
                have B0 : Hid (Below w.heap.size w X) := Lib.hid (al3 hX).1
                have HP0 : Hid (Blk X w.heap.size 41 #[Value.slice Al nl cl, .int .i64 wa, .int .i64 l0, .int .i64 l1, .slice Ab nb cb, .int .i64 wrg]) := by rw [← hX]; exact Lib.hid (((Blk.new w _ _).alloc _).alloc _)
                have HQ0 : Hid (Blk X (w.heap.size + 1) 45 #[Value.slice SA nl sc, .int .i64 lk]) := by
                  rw [← hX]
                  have := (Blk.new (w.alloc (.cells #[Value.slice Al nl cl, .int .i64 wa, .int .i64 l0, .int .i64 l1, .slice Ab nb cb, .int .i64 wrg] 41)) 45 #[Value.slice SA nl sc, .int .i64 lk]).alloc (.cells #[Value.slice A n c, .int .i64 need, .int .i64 gap, .int .i64 doubt, .int .i64 joins, .int .i64 least, .int .i64 wt, .int .i64 mi] 50)
                  rw [World.size_alloc] at this
                  exact Lib.hid this
                have HR0 : Hid (Blk X (w.heap.size + 1 + 1) 50 #[Value.slice A n c, .int .i64 need, .int .i64 gap, .int .i64 doubt, .int .i64 joins, .int .i64 least, .int .i64 wt, .int .i64 mi]) := by
                  rw [← hX]
                  have := Blk.new ((w.alloc (.cells #[Value.slice Al nl cl, .int .i64 wa, .int .i64 l0, .int .i64 l1, .slice Ab nb cb, .int .i64 wrg] 41)).alloc (.cells #[Value.slice SA nl sc, .int .i64 lk] 45)) 50 #[Value.slice A n c, .int .i64 need, .int .i64 gap, .int .i64 doubt, .int .i64 joins, .int .i64 least, .int .i64 wt, .int .i64 mi]
                  rw [World.size_alloc, World.size_alloc] at this
                  exact Lib.hid this
                have cP0 := HP0.out.cell
                have mP0 := HP0.out.lt
                have cQ0 := HQ0.out.cell
                have mQ0 := HQ0.out.lt
                have cR0 := HR0.out.cell
                have mR0 := HR0.out.lt
                clear hX
                go_upto_region 4 with (first | (go_at_call 12; (with_reducible refine (HF3.out X B0.out).mono ?_); (rintro e v1 ⟨rfl, hb⟩); (have HP1 := Lib.hid (HP0.out.below hb HP0.out.lt)); (have cP1 := HP1.out.cell); (have mP1 := HP1.out.lt); (have HQ1 := Lib.hid (HQ0.out.below hb HQ0.out.lt)); (have cQ1 := HQ1.out.cell); (have mQ1 := HQ1.out.lt); (have HR1 := Lib.hid (HR0.out.below hb HR0.out.lt)); (have cR1 := HR1.out.cell); (have mR1 := HR1.out.lt); (have B1 := Lib.hid (B0.out.trans (hb.mono B0.out.size))); clear hb cP0 mP0 cQ0 mQ0 cR0 mR0) | (go_at_call 13; (with_reducible refine (HK3.out v1 B1.out).mono ?_); (rintro e v2 ⟨rfl, hb⟩); (have HP2 := Lib.hid (HP1.out.below hb HP1.out.lt)); (have cP2 := HP2.out.cell); (have mP2 := HP2.out.lt); (have HQ2 := Lib.hid (HQ1.out.below hb HQ1.out.lt)); (have cQ2 := HQ2.out.cell); (have mQ2 := HQ2.out.lt); (have HR2 := Lib.hid (HR1.out.below hb HR1.out.lt)); (have cR2 := HR2.out.cell); (have mR2 := HR2.out.lt); (have B2 := Lib.hid (B1.out.trans (hb.mono B1.out.size))); clear hb cP1 mP1 cQ1 mQ1 cR1 mR1) | (go_at_call 14; (with_reducible refine (HT3.out v2 B2.out).mono ?_); (rintro e v3 ⟨rfl, hb⟩); (have HP3 := Lib.hid (HP2.out.below hb HP2.out.lt)); (have cP3 := HP3.out.cell); (have mP3 := HP3.out.lt); (have HQ3 := Lib.hid (HQ2.out.below hb HQ2.out.lt)); (have cQ3 := HQ3.out.cell); (have mQ3 := HQ3.out.lt); (have HR3 := Lib.hid (HR2.out.below hb HR2.out.lt)); (have cR3 := HR3.out.cell); (have mR3 := HR3.out.lt); (have B3 := Lib.hid (B2.out.trans (hb.mono B2.out.size))); clear hb cP2 mP2 cQ2 mQ2 cR2 mR2) | (go_at_call 7; (with_reducible refine (refAsk3_c wt mi 0 _).mono ?_); (rintro e v0 ⟨rfl, rfl⟩); simp only [hak]) | (go_at_call 15; (with_reducible refine (HF7.out v3 B3.out).mono ?_); (rintro e v4 ⟨rfl, hb⟩); (have HP4 := Lib.hid (HP3.out.below hb HP3.out.lt)); (have cP4 := HP4.out.cell); (have mP4 := HP4.out.lt); (have HQ4 := Lib.hid (HQ3.out.below hb HQ3.out.lt)); (have cQ4 := HQ4.out.cell); (have mQ4 := HQ4.out.lt); (have HR4 := Lib.hid (HR3.out.below hb HR3.out.lt)); (have cR4 := HR4.out.cell); (have mR4 := HR4.out.lt); (have B4 := Lib.hid (B3.out.trans (hb.mono B3.out.size))); clear hb cP3 mP3 cQ3 mQ3 cR3 mR3) | (go_at_call 16; (with_reducible refine (HK7.out v4 B4.out).mono ?_); (rintro e v5 ⟨rfl, hb⟩); (have HP5 := Lib.hid (HP4.out.below hb HP4.out.lt)); (have cP5 := HP5.out.cell); (have mP5 := HP5.out.lt); (have HQ5 := Lib.hid (HQ4.out.below hb HQ4.out.lt)); (have cQ5 := HQ5.out.cell); (have mQ5 := HQ5.out.lt); (have HR5 := Lib.hid (HR4.out.below hb HR4.out.lt)); (have cR5 := HR5.out.cell); (have mR5 := HR5.out.lt); (have B5 := Lib.hid (B4.out.trans (hb.mono B4.out.size))); clear hb cP4 mP4 cQ4 mQ4 cR4 mR4) | (go_at_call 10; (with_reducible refine (HLD.out v5 B5.out).mono ?_); (rintro e v6 ⟨rfl, hb⟩); (have HP6 := Lib.hid (HP5.out.below hb HP5.out.lt)); (have cP6 := HP6.out.cell); (have mP6 := HP6.out.lt); (have HQ6 := Lib.hid (HQ5.out.below hb HQ5.out.lt)); (have cQ6 := HQ6.out.cell); (have mQ6 := HQ6.out.lt); (have HR6 := Lib.hid (HR5.out.below hb HR5.out.lt)); (have cR6 := HR6.out.cell); (have mR6 := HR6.out.lt); (have B6 := Lib.hid (B5.out.trans (hb.mono B5.out.size))); clear hb cP5 mP5 cQ5 mQ5 cR5 mR5))
                obtain ⟨gL, hgL⟩ : ∃ x, v6.heap.size = x := ⟨_, rfl⟩
                go_name_world V hV
                have BV := (al1 hV).1
                have HS7 : Hid (Blk V v6.heap.size 23 #[.int .i64 s0, .int .i64 s1]) := by rw [← hV]; exact Lib.hid (Blk.new _ _ _)
                rw [hgL] at HS7 ⊢
                have HP7 := Lib.hid (HP6.out.below BV HP6.out.lt)
                have HQ7 := Lib.hid (HQ6.out.below BV HQ6.out.lt)
                have HR7 := Lib.hid (HR6.out.below BV HR6.out.lt)
                have B7 := Lib.hid (B6.out.trans (BV.mono B6.out.size))
                have cP7 := HP7.out.cell
                have mP7 := HP7.out.lt
                have cQ7 := HQ7.out.cell
                have mQ7 := HQ7.out.lt
                have cR7 := HR7.out.cell
                have mR7 := HR7.out.lt
                have cS7 := HS7.out.cell
                have mS7 := HS7.out.lt
                clear hV BV hgL cP6 mP6 cQ6 mQ6 cR6 mR6
                go_wp2_with (go_at_call 17; refine (mended_c _).mono ?_; (rintro e v99 ⟨rfl, hb99⟩); (have B99 := Lib.hid (B7.out.trans (hb99.mono B7.out.size))); clear hb99)
                go_ret
                exact ⟨rfl, B99.out⟩
              case neg =>
                have ghB : decide (9999 < s1) = false := decide_eq_false gh
                have hc2 : ckC n ls ⟨s1, gap, 0, joins, least⟩ = true := HCW.out ⟨by omega, by omega⟩
                have HPL := Lib.hid (fun A' c' V (h : SpsAt V A' n ls) => Plan_c A' n c' ⟨s1, gap, 0, joins, least⟩ ls V hn HQK.out h)
                clear HCW HQK
                rcases plan_with hc2 with ⟨e1, e2⟩ | ⟨e1, y, e2, hg⟩
                case inl =>
                  rw [e1, e2] at HPL
                  clear e1 e2 HLO HCL hc2
                  go_enter Try.func4, Try.ntmps4
                  go_upto_region 1 with (fail)
                  go_name_world X hX
                  have B0 : Hid (Below w.heap.size w X) := Lib.hid (al3 hX).1
                  have HP0 : Hid (Blk X w.heap.size 41 #[Value.slice Al nl cl, .int .i64 wa, .int .i64 l0, .int .i64 l1, .slice Ab nb cb, .int .i64 wrg]) := by rw [← hX]; exact Lib.hid (((Blk.new w _ _).alloc _).alloc _)
                  have HQ0 : Hid (Blk X (w.heap.size + 1) 45 #[Value.slice SA nl sc, .int .i64 lk]) := by
                    rw [← hX]
                    have := (Blk.new (w.alloc (.cells #[Value.slice Al nl cl, .int .i64 wa, .int .i64 l0, .int .i64 l1, .slice Ab nb cb, .int .i64 wrg] 41)) 45 #[Value.slice SA nl sc, .int .i64 lk]).alloc (.cells #[Value.slice A n c, .int .i64 need, .int .i64 gap, .int .i64 doubt, .int .i64 joins, .int .i64 least, .int .i64 wt, .int .i64 mi] 50)
                    rw [World.size_alloc] at this
                    exact Lib.hid this
                  have HR0 : Hid (Blk X (w.heap.size + 1 + 1) 50 #[Value.slice A n c, .int .i64 need, .int .i64 gap, .int .i64 doubt, .int .i64 joins, .int .i64 least, .int .i64 wt, .int .i64 mi]) := by
                    rw [← hX]
                    have := Blk.new ((w.alloc (.cells #[Value.slice Al nl cl, .int .i64 wa, .int .i64 l0, .int .i64 l1, .slice Ab nb cb, .int .i64 wrg] 41)).alloc (.cells #[Value.slice SA nl sc, .int .i64 lk] 45)) 50 #[Value.slice A n c, .int .i64 need, .int .i64 gap, .int .i64 doubt, .int .i64 joins, .int .i64 least, .int .i64 wt, .int .i64 mi]
                    rw [World.size_alloc, World.size_alloc] at this
                    exact Lib.hid this
                  have cP0 := HP0.out.cell
                  have mP0 := HP0.out.lt
                  have cQ0 := HQ0.out.cell
                  have mQ0 := HQ0.out.lt
                  have cR0 := HR0.out.cell
                  have mR0 := HR0.out.lt
                  clear hX
                  go_upto_region 4 with (first | (go_at_call 12; (with_reducible refine (HF3.out X B0.out).mono ?_); (rintro e v1 ⟨rfl, hb⟩); (have HP1 := Lib.hid (HP0.out.below hb HP0.out.lt)); (have cP1 := HP1.out.cell); (have mP1 := HP1.out.lt); (have HQ1 := Lib.hid (HQ0.out.below hb HQ0.out.lt)); (have cQ1 := HQ1.out.cell); (have mQ1 := HQ1.out.lt); (have HR1 := Lib.hid (HR0.out.below hb HR0.out.lt)); (have cR1 := HR1.out.cell); (have mR1 := HR1.out.lt); (have B1 := Lib.hid (B0.out.trans (hb.mono B0.out.size))); clear hb cP0 mP0 cQ0 mQ0 cR0 mR0) | (go_at_call 13; (with_reducible refine (HK3.out v1 B1.out).mono ?_); (rintro e v2 ⟨rfl, hb⟩); (have HP2 := Lib.hid (HP1.out.below hb HP1.out.lt)); (have cP2 := HP2.out.cell); (have mP2 := HP2.out.lt); (have HQ2 := Lib.hid (HQ1.out.below hb HQ1.out.lt)); (have cQ2 := HQ2.out.cell); (have mQ2 := HQ2.out.lt); (have HR2 := Lib.hid (HR1.out.below hb HR1.out.lt)); (have cR2 := HR2.out.cell); (have mR2 := HR2.out.lt); (have B2 := Lib.hid (B1.out.trans (hb.mono B1.out.size))); clear hb cP1 mP1 cQ1 mQ1 cR1 mR1) | (go_at_call 14; (with_reducible refine (HT3.out v2 B2.out).mono ?_); (rintro e v3 ⟨rfl, hb⟩); (have HP3 := Lib.hid (HP2.out.below hb HP2.out.lt)); (have cP3 := HP3.out.cell); (have mP3 := HP3.out.lt); (have HQ3 := Lib.hid (HQ2.out.below hb HQ2.out.lt)); (have cQ3 := HQ3.out.cell); (have mQ3 := HQ3.out.lt); (have HR3 := Lib.hid (HR2.out.below hb HR2.out.lt)); (have cR3 := HR3.out.cell); (have mR3 := HR3.out.lt); (have B3 := Lib.hid (B2.out.trans (hb.mono B2.out.size))); clear hb cP2 mP2 cQ2 mQ2 cR2 mR2) | (go_at_call 7; (with_reducible refine (refAsk3_c wt mi 0 _).mono ?_); (rintro e v0 ⟨rfl, rfl⟩); simp only [hak]) | (go_at_call 15; (with_reducible refine (HF7.out v3 B3.out).mono ?_); (rintro e v4 ⟨rfl, hb⟩); (have HP4 := Lib.hid (HP3.out.below hb HP3.out.lt)); (have cP4 := HP4.out.cell); (have mP4 := HP4.out.lt); (have HQ4 := Lib.hid (HQ3.out.below hb HQ3.out.lt)); (have cQ4 := HQ4.out.cell); (have mQ4 := HQ4.out.lt); (have HR4 := Lib.hid (HR3.out.below hb HR3.out.lt)); (have cR4 := HR4.out.cell); (have mR4 := HR4.out.lt); (have B4 := Lib.hid (B3.out.trans (hb.mono B3.out.size))); clear hb cP3 mP3 cQ3 mQ3 cR3 mR3) | (go_at_call 16; (with_reducible refine (HK7.out v4 B4.out).mono ?_); (rintro e v5 ⟨rfl, hb⟩); (have HP5 := Lib.hid (HP4.out.below hb HP4.out.lt)); (have cP5 := HP5.out.cell); (have mP5 := HP5.out.lt); (have HQ5 := Lib.hid (HQ4.out.below hb HQ4.out.lt)); (have cQ5 := HQ5.out.cell); (have mQ5 := HQ5.out.lt); (have HR5 := Lib.hid (HR4.out.below hb HR4.out.lt)); (have cR5 := HR5.out.cell); (have mR5 := HR5.out.lt); (have B5 := Lib.hid (B4.out.trans (hb.mono B4.out.size))); clear hb cP4 mP4 cQ4 mQ4 cR4 mR4) | (go_at_call 10; (with_reducible refine (HLD.out v5 B5.out).mono ?_); (rintro e v6 ⟨rfl, hb⟩); (have HP6 := Lib.hid (HP5.out.below hb HP5.out.lt)); (have cP6 := HP6.out.cell); (have mP6 := HP6.out.lt); (have HQ6 := Lib.hid (HQ5.out.below hb HQ5.out.lt)); (have cQ6 := HQ6.out.cell); (have mQ6 := HQ6.out.lt); (have HR6 := Lib.hid (HR5.out.below hb HR5.out.lt)); (have cR6 := HR6.out.cell); (have mR6 := HR6.out.lt); (have B6 := Lib.hid (B5.out.trans (hb.mono B5.out.size))); clear hb cP5 mP5 cQ5 mQ5 cR5 mR5))
                  obtain ⟨gL, hgL⟩ : ∃ x, v6.heap.size = x := ⟨_, rfl⟩
                  go_name_world V hV
                  have BV := (al1 hV).1
                  have HS7 : Hid (Blk V v6.heap.size 23 #[.int .i64 s0, .int .i64 s1]) := by rw [← hV]; exact Lib.hid (Blk.new _ _ _)
                  rw [hgL] at HS7 ⊢
                  have HP7 := Lib.hid (HP6.out.below BV HP6.out.lt)
                  have HQ7 := Lib.hid (HQ6.out.below BV HQ6.out.lt)
                  have HR7 := Lib.hid (HR6.out.below BV HR6.out.lt)
                  have B7 := Lib.hid (B6.out.trans (BV.mono B6.out.size))
                  have cP7 := HP7.out.cell
                  have mP7 := HP7.out.lt
                  have cQ7 := HQ7.out.cell
                  have mQ7 := HQ7.out.lt
                  have cR7 := HR7.out.cell
                  have mR7 := HR7.out.lt
                  have cS7 := HS7.out.cell
                  have mS7 := HS7.out.lt
                  clear hV BV hgL cP6 mP6 cQ6 mQ6 cR6 mR6
                  go_upto_region 8 with (fail)
                  go_upto_region 10 with (go_at_call 18; (refine (HCP.out V B7.out).mono ?_); (rintro e v8 ⟨A1, c1, rfl, ho, hb⟩); (have HO := Lib.hid ho); clear ho; (have HP8 := Lib.hid (HP7.out.below hb HP7.out.lt)); (have cP8 := HP8.out.cell); (have mP8 := HP8.out.lt); (have HQ8 := Lib.hid (HQ7.out.below hb HQ7.out.lt)); (have cQ8 := HQ8.out.cell); (have mQ8 := HQ8.out.lt); (have HR8 := Lib.hid (HR7.out.below hb HR7.out.lt)); (have cR8 := HR8.out.cell); (have mR8 := HR8.out.lt); (have HS8 := Lib.hid (HS7.out.below hb HS7.out.lt)); (have cS8 := HS8.out.cell); (have mS8 := HS8.out.lt); (have B8 := Lib.hid (B7.out.trans (hb.mono B7.out.size))); clear hb cP7 mP7 cQ7 mQ7 cR7 mR7 cS7 mS7)
                  obtain ⟨_, _, eo, -, ho⟩ := SlAt.of_own (d := (⟨0, 0⟩ : Sp)) encS_len HO.out HLS.out
                  cases eo
                  have W8 := Lib.hid (sps_iff.2 ho)
                  clear ho HO
                  obtain ⟨gC, hgC⟩ : ∃ x, v8.heap.size = x := ⟨_, rfl⟩
                  go_name_world U hU
                  have BU := (al1 hU).1
                  have HC9 : Hid (Blk U v8.heap.size 48 #[.slice A1 n c1, .int .i64 s1, .int .i64 gap, .int .i64 0, .int .i64 joins, .int .i64 least]) := by rw [← hU]; exact Lib.hid (Blk.new _ _ _)
                  rw [hgC] at HC9 ⊢
                  have W9 := Lib.hid (W8.out.later BU)
                  have HP9 := Lib.hid (HP8.out.below BU HP8.out.lt)
                  have HQ9 := Lib.hid (HQ8.out.below BU HQ8.out.lt)
                  have HR9 := Lib.hid (HR8.out.below BU HR8.out.lt)
                  have HS9 := Lib.hid (HS8.out.below BU HS8.out.lt)
                  have B9 := Lib.hid (B8.out.trans (BU.mono B8.out.size))
                  have cP9 := HP9.out.cell
                  have mP9 := HP9.out.lt
                  have cQ9 := HQ9.out.cell
                  have mQ9 := HQ9.out.lt
                  have cR9 := HR9.out.cell
                  have mR9 := HR9.out.lt
                  have cS9 := HS9.out.cell
                  have mS9 := HS9.out.lt
                  have cC9 := HC9.out.cell
                  have mC9 := HC9.out.lt
                  clear hU BU hgC cP8 mP8 cQ8 mQ8 cR8 mR8 cS8 mS8
                  go_wp2_with (first | (go_at_call 19; (refine (HPL.out A1 c1 U W9.out).mono ?_); (rintro e v10 ⟨B, d, rfl, hI, hb⟩); clear hI; (have HP10 := Lib.hid (HP9.out.below hb HP9.out.lt)); (have cP10 := HP10.out.cell); (have mP10 := HP10.out.lt); (have HQ10 := Lib.hid (HQ9.out.below hb HQ9.out.lt)); (have cQ10 := HQ10.out.cell); (have mQ10 := HQ10.out.lt); (have HR10 := Lib.hid (HR9.out.below hb HR9.out.lt)); (have cR10 := HR10.out.cell); (have mR10 := HR10.out.lt); (have HS10 := Lib.hid (HS9.out.below hb HS9.out.lt)); (have cS10 := HS10.out.cell); (have mS10 := HS10.out.lt); (have HC10 := Lib.hid (HC9.out.below hb HC9.out.lt)); (have cC10 := HC10.out.cell); (have mC10 := HC10.out.lt); (have W10 := Lib.hid (W9.out.later hb)); (have B10 := Lib.hid (B9.out.trans (hb.mono B9.out.size))); clear hb cP9 mP9 cQ9 mQ9 cR9 mR9 cS9 mS9 cC9 mC9) | (go_at_call 17; refine (mended_c _).mono ?_; (rintro e v99 ⟨rfl, hb99⟩); (have B99 := Lib.hid (B10.out.trans (hb99.mono B10.out.size))); clear hb99))
                  go_ret
                  exact ⟨rfl, B99.out⟩
                case inr =>
                  rw [e1, e2] at HPL
                  have hm := memN_le (y := y) (n := n)
                  have HIR := Lib.hid (fun A' c' B' d' V (h : IntsAt V B' (memN y n).length (ints (memN y n))) => IsRepair_c A' B' n c' (memN y n).length d' ⟨s1, gap, 0, joins, least⟩ (ints (memN y n)) V hn (by omega) h)
                  rw [isR_memT] at HIR
                  have HIG := Lib.hid (fun A' c' B' d' V (h0 : SpsAt V A' n ls) (h : IntsAt V B' (memN y n).length (ints (memN y n))) => IsGood_c A' B' n c' (memN y n).length d' y ⟨s1, gap, 0, joins, least⟩ ls (ints (memN y n)) V hn (by omega) h0 h (bits_mem y n))
                  rw [hg] at HIG
                  have HIN := Lib.hid (fun (k : Nat) (hk : k < n) B' d' V (h : IntsAt V B' (memN y n).length (ints (memN y n))) => (by have := In_c B' (memN y n).length d' (k : Int) (ints (memN y n)) V (by omega) h; rw [bits_mem y n k hk] at this; exact this : Calls Try.prog 23 #[.slice B' (memN y n).length d', .int .i64 k] V fun e w' => e = .returned (.bool (y.testBit k)) ∧ V = w'))
                  have HGL := Lib.hid (fun (k : Nat) (hk : k < n) (hy : y.testBit k = false) => (good_lo hg rfl hk hy : s1 ≤ (spAt ls k).lo))
                  obtain ⟨m, hmm⟩ : ∃ x, (memN y n).length = x := ⟨_, rfl⟩
                  obtain ⟨L, hLL⟩ : ∃ x, ints (memN y n) = x := ⟨_, rfl⟩
                  have HPL1 : Hid (∀ A' c' V, SpsAt V A' n ls → Calls Try.prog 19 #[.agg #[.slice A' n c', .int .i64 s1, .int .i64 gap, .int .i64 0, .int .i64 joins, .int .i64 least]] V fun e w' => ∃ B d, e = .returned (.tuple #[.slice B m d, .int .i64 0]) ∧ IntsAt w' B m L ∧ Below V.heap.size V w') := Lib.hid (fun A' c' V h => by have := HPL.out A' c' V h; unfold LiRet at this; rw [hmm, hLL] at this; exact this)
                  rw [hmm, hLL] at HIR HIG HIN
                  clear e1 e2 HPL hg hm hmm hLL hc2
                  go_enter Try.func4, Try.ntmps4
                  go_upto_region 1 with (fail)
                  go_name_world X hX
                  have B0 : Hid (Below w.heap.size w X) := Lib.hid (al3 hX).1
                  have HP0 : Hid (Blk X w.heap.size 41 #[Value.slice Al nl cl, .int .i64 wa, .int .i64 l0, .int .i64 l1, .slice Ab nb cb, .int .i64 wrg]) := by rw [← hX]; exact Lib.hid (((Blk.new w _ _).alloc _).alloc _)
                  have HQ0 : Hid (Blk X (w.heap.size + 1) 45 #[Value.slice SA nl sc, .int .i64 lk]) := by
                    rw [← hX]
                    have := (Blk.new (w.alloc (.cells #[Value.slice Al nl cl, .int .i64 wa, .int .i64 l0, .int .i64 l1, .slice Ab nb cb, .int .i64 wrg] 41)) 45 #[Value.slice SA nl sc, .int .i64 lk]).alloc (.cells #[Value.slice A n c, .int .i64 need, .int .i64 gap, .int .i64 doubt, .int .i64 joins, .int .i64 least, .int .i64 wt, .int .i64 mi] 50)
                    rw [World.size_alloc] at this
                    exact Lib.hid this
                  have HR0 : Hid (Blk X (w.heap.size + 1 + 1) 50 #[Value.slice A n c, .int .i64 need, .int .i64 gap, .int .i64 doubt, .int .i64 joins, .int .i64 least, .int .i64 wt, .int .i64 mi]) := by
                    rw [← hX]
                    have := Blk.new ((w.alloc (.cells #[Value.slice Al nl cl, .int .i64 wa, .int .i64 l0, .int .i64 l1, .slice Ab nb cb, .int .i64 wrg] 41)).alloc (.cells #[Value.slice SA nl sc, .int .i64 lk] 45)) 50 #[Value.slice A n c, .int .i64 need, .int .i64 gap, .int .i64 doubt, .int .i64 joins, .int .i64 least, .int .i64 wt, .int .i64 mi]
                    rw [World.size_alloc, World.size_alloc] at this
                    exact Lib.hid this
                  have cP0 := HP0.out.cell
                  have mP0 := HP0.out.lt
                  have cQ0 := HQ0.out.cell
                  have mQ0 := HQ0.out.lt
                  have cR0 := HR0.out.cell
                  have mR0 := HR0.out.lt
                  clear hX
                  go_upto_region 4 with (first | (go_at_call 12; (with_reducible refine (HF3.out X B0.out).mono ?_); (rintro e v1 ⟨rfl, hb⟩); (have HP1 := Lib.hid (HP0.out.below hb HP0.out.lt)); (have cP1 := HP1.out.cell); (have mP1 := HP1.out.lt); (have HQ1 := Lib.hid (HQ0.out.below hb HQ0.out.lt)); (have cQ1 := HQ1.out.cell); (have mQ1 := HQ1.out.lt); (have HR1 := Lib.hid (HR0.out.below hb HR0.out.lt)); (have cR1 := HR1.out.cell); (have mR1 := HR1.out.lt); (have B1 := Lib.hid (B0.out.trans (hb.mono B0.out.size))); clear hb cP0 mP0 cQ0 mQ0 cR0 mR0) | (go_at_call 13; (with_reducible refine (HK3.out v1 B1.out).mono ?_); (rintro e v2 ⟨rfl, hb⟩); (have HP2 := Lib.hid (HP1.out.below hb HP1.out.lt)); (have cP2 := HP2.out.cell); (have mP2 := HP2.out.lt); (have HQ2 := Lib.hid (HQ1.out.below hb HQ1.out.lt)); (have cQ2 := HQ2.out.cell); (have mQ2 := HQ2.out.lt); (have HR2 := Lib.hid (HR1.out.below hb HR1.out.lt)); (have cR2 := HR2.out.cell); (have mR2 := HR2.out.lt); (have B2 := Lib.hid (B1.out.trans (hb.mono B1.out.size))); clear hb cP1 mP1 cQ1 mQ1 cR1 mR1) | (go_at_call 14; (with_reducible refine (HT3.out v2 B2.out).mono ?_); (rintro e v3 ⟨rfl, hb⟩); (have HP3 := Lib.hid (HP2.out.below hb HP2.out.lt)); (have cP3 := HP3.out.cell); (have mP3 := HP3.out.lt); (have HQ3 := Lib.hid (HQ2.out.below hb HQ2.out.lt)); (have cQ3 := HQ3.out.cell); (have mQ3 := HQ3.out.lt); (have HR3 := Lib.hid (HR2.out.below hb HR2.out.lt)); (have cR3 := HR3.out.cell); (have mR3 := HR3.out.lt); (have B3 := Lib.hid (B2.out.trans (hb.mono B2.out.size))); clear hb cP2 mP2 cQ2 mQ2 cR2 mR2) | (go_at_call 7; (with_reducible refine (refAsk3_c wt mi 0 _).mono ?_); (rintro e v0 ⟨rfl, rfl⟩); simp only [hak]) | (go_at_call 15; (with_reducible refine (HF7.out v3 B3.out).mono ?_); (rintro e v4 ⟨rfl, hb⟩); (have HP4 := Lib.hid (HP3.out.below hb HP3.out.lt)); (have cP4 := HP4.out.cell); (have mP4 := HP4.out.lt); (have HQ4 := Lib.hid (HQ3.out.below hb HQ3.out.lt)); (have cQ4 := HQ4.out.cell); (have mQ4 := HQ4.out.lt); (have HR4 := Lib.hid (HR3.out.below hb HR3.out.lt)); (have cR4 := HR4.out.cell); (have mR4 := HR4.out.lt); (have B4 := Lib.hid (B3.out.trans (hb.mono B3.out.size))); clear hb cP3 mP3 cQ3 mQ3 cR3 mR3) | (go_at_call 16; (with_reducible refine (HK7.out v4 B4.out).mono ?_); (rintro e v5 ⟨rfl, hb⟩); (have HP5 := Lib.hid (HP4.out.below hb HP4.out.lt)); (have cP5 := HP5.out.cell); (have mP5 := HP5.out.lt); (have HQ5 := Lib.hid (HQ4.out.below hb HQ4.out.lt)); (have cQ5 := HQ5.out.cell); (have mQ5 := HQ5.out.lt); (have HR5 := Lib.hid (HR4.out.below hb HR4.out.lt)); (have cR5 := HR5.out.cell); (have mR5 := HR5.out.lt); (have B5 := Lib.hid (B4.out.trans (hb.mono B4.out.size))); clear hb cP4 mP4 cQ4 mQ4 cR4 mR4) | (go_at_call 10; (with_reducible refine (HLD.out v5 B5.out).mono ?_); (rintro e v6 ⟨rfl, hb⟩); (have HP6 := Lib.hid (HP5.out.below hb HP5.out.lt)); (have cP6 := HP6.out.cell); (have mP6 := HP6.out.lt); (have HQ6 := Lib.hid (HQ5.out.below hb HQ5.out.lt)); (have cQ6 := HQ6.out.cell); (have mQ6 := HQ6.out.lt); (have HR6 := Lib.hid (HR5.out.below hb HR5.out.lt)); (have cR6 := HR6.out.cell); (have mR6 := HR6.out.lt); (have B6 := Lib.hid (B5.out.trans (hb.mono B5.out.size))); clear hb cP5 mP5 cQ5 mQ5 cR5 mR5))
                  obtain ⟨gL, hgL⟩ : ∃ x, v6.heap.size = x := ⟨_, rfl⟩
                  go_name_world V hV
                  have BV := (al1 hV).1
                  have HS7 : Hid (Blk V v6.heap.size 23 #[.int .i64 s0, .int .i64 s1]) := by rw [← hV]; exact Lib.hid (Blk.new _ _ _)
                  rw [hgL] at HS7 ⊢
                  have HP7 := Lib.hid (HP6.out.below BV HP6.out.lt)
                  have HQ7 := Lib.hid (HQ6.out.below BV HQ6.out.lt)
                  have HR7 := Lib.hid (HR6.out.below BV HR6.out.lt)
                  have B7 := Lib.hid (B6.out.trans (BV.mono B6.out.size))
                  have cP7 := HP7.out.cell
                  have mP7 := HP7.out.lt
                  have cQ7 := HQ7.out.cell
                  have mQ7 := HQ7.out.lt
                  have cR7 := HR7.out.cell
                  have mR7 := HR7.out.lt
                  have cS7 := HS7.out.cell
                  have mS7 := HS7.out.lt
                  clear hV BV hgL cP6 mP6 cQ6 mQ6 cR6 mR6
                  go_upto_region 8 with (fail)
                  go_upto_region 10 with (go_at_call 18; (refine (HCP.out V B7.out).mono ?_); (rintro e v8 ⟨A1, c1, rfl, ho, hb⟩); (have HO := Lib.hid ho); clear ho; (have HP8 := Lib.hid (HP7.out.below hb HP7.out.lt)); (have cP8 := HP8.out.cell); (have mP8 := HP8.out.lt); (have HQ8 := Lib.hid (HQ7.out.below hb HQ7.out.lt)); (have cQ8 := HQ8.out.cell); (have mQ8 := HQ8.out.lt); (have HR8 := Lib.hid (HR7.out.below hb HR7.out.lt)); (have cR8 := HR8.out.cell); (have mR8 := HR8.out.lt); (have HS8 := Lib.hid (HS7.out.below hb HS7.out.lt)); (have cS8 := HS8.out.cell); (have mS8 := HS8.out.lt); (have B8 := Lib.hid (B7.out.trans (hb.mono B7.out.size))); clear hb cP7 mP7 cQ7 mQ7 cR7 mR7 cS7 mS7)
                  obtain ⟨_, _, eo, -, ho⟩ := SlAt.of_own (d := (⟨0, 0⟩ : Sp)) encS_len HO.out HLS.out
                  cases eo
                  have W8 := Lib.hid (sps_iff.2 ho)
                  clear ho HO
                  obtain ⟨gC, hgC⟩ : ∃ x, v8.heap.size = x := ⟨_, rfl⟩
                  go_name_world U hU
                  have BU := (al1 hU).1
                  have HC9 : Hid (Blk U v8.heap.size 48 #[.slice A1 n c1, .int .i64 s1, .int .i64 gap, .int .i64 0, .int .i64 joins, .int .i64 least]) := by rw [← hU]; exact Lib.hid (Blk.new _ _ _)
                  rw [hgC] at HC9 ⊢
                  have W9 := Lib.hid (W8.out.later BU)
                  have HP9 := Lib.hid (HP8.out.below BU HP8.out.lt)
                  have HQ9 := Lib.hid (HQ8.out.below BU HQ8.out.lt)
                  have HR9 := Lib.hid (HR8.out.below BU HR8.out.lt)
                  have HS9 := Lib.hid (HS8.out.below BU HS8.out.lt)
                  have B9 := Lib.hid (B8.out.trans (BU.mono B8.out.size))
                  have cP9 := HP9.out.cell
                  have mP9 := HP9.out.lt
                  have cQ9 := HQ9.out.cell
                  have mQ9 := HQ9.out.lt
                  have cR9 := HR9.out.cell
                  have mR9 := HR9.out.lt
                  have cS9 := HS9.out.cell
                  have mS9 := HS9.out.lt
                  have cC9 := HC9.out.cell
                  have mC9 := HC9.out.lt
                  clear hU BU hgC cP8 mP8 cQ8 mQ8 cR8 mR8 cS8 mS8
                  go_upto_region 13 with (go_at_call 19; (refine (HPL1.out A1 c1 U W9.out).mono ?_); (rintro e v10 ⟨B, d, rfl, hI, hb⟩); (have I10 := Lib.hid hI); clear hI; (have HP10 := Lib.hid (HP9.out.below hb HP9.out.lt)); (have cP10 := HP10.out.cell); (have mP10 := HP10.out.lt); (have HQ10 := Lib.hid (HQ9.out.below hb HQ9.out.lt)); (have cQ10 := HQ10.out.cell); (have mQ10 := HQ10.out.lt); (have HR10 := Lib.hid (HR9.out.below hb HR9.out.lt)); (have cR10 := HR10.out.cell); (have mR10 := HR10.out.lt); (have HS10 := Lib.hid (HS9.out.below hb HS9.out.lt)); (have cS10 := HS10.out.cell); (have mS10 := HS10.out.lt); (have HC10 := Lib.hid (HC9.out.below hb HC9.out.lt)); (have cC10 := HC10.out.cell); (have mC10 := HC10.out.lt); (have W10 := Lib.hid (W9.out.later hb)); (have B10 := Lib.hid (B9.out.trans (hb.mono B9.out.size))); clear hb cP9 mP9 cQ9 mQ9 cR9 mR9 cS9 mS9 cC9 mC9)
                  go_upto_region 15 with (first | (go_at_call 20; (with_reducible refine (HIR.out A1 c1 B d _ I10.out).mono ?_); (rintro e v11 ⟨rfl, hb⟩); (have HP11 := Lib.hid (HP10.out.below hb HP10.out.lt)); (have cP11 := HP11.out.cell); (have mP11 := HP11.out.lt); (have HQ11 := Lib.hid (HQ10.out.below hb HQ10.out.lt)); (have cQ11 := HQ11.out.cell); (have mQ11 := HQ11.out.lt); (have HR11 := Lib.hid (HR10.out.below hb HR10.out.lt)); (have cR11 := HR11.out.cell); (have mR11 := HR11.out.lt); (have HS11 := Lib.hid (HS10.out.below hb HS10.out.lt)); (have cS11 := HS11.out.cell); (have mS11 := HS11.out.lt); (have HC11 := Lib.hid (HC10.out.below hb HC10.out.lt)); (have cC11 := HC11.out.cell); (have mC11 := HC11.out.lt); (have W11 := Lib.hid (W10.out.later hb)); (have I11 := Lib.hid (I10.out.later hb)); (have B11 := Lib.hid (B10.out.trans (hb.mono B10.out.size))); clear hb cP10 mP10 cQ10 mQ10 cR10 mR10 cS10 mS10 cC10 mC10) | (go_at_call 21; (with_reducible refine (HIG.out A1 c1 B d _ W11.out I11.out).mono ?_); (rintro e v12 ⟨rfl, hb⟩); (have HP12 := Lib.hid (HP11.out.below hb HP11.out.lt)); (have cP12 := HP12.out.cell); (have mP12 := HP12.out.lt); (have HQ12 := Lib.hid (HQ11.out.below hb HQ11.out.lt)); (have cQ12 := HQ12.out.cell); (have mQ12 := HQ12.out.lt); (have HR12 := Lib.hid (HR11.out.below hb HR11.out.lt)); (have cR12 := HR12.out.cell); (have mR12 := HR12.out.lt); (have HS12 := Lib.hid (HS11.out.below hb HS11.out.lt)); (have cS12 := HS12.out.cell); (have mS12 := HS12.out.lt); (have HC12 := Lib.hid (HC11.out.below hb HC11.out.lt)); (have cC12 := HC12.out.cell); (have mC12 := HC12.out.lt); (have W12 := Lib.hid (W11.out.later hb)); (have I12 := Lib.hid (I11.out.later hb)); (have B12 := Lib.hid (B11.out.trans (hb.mono B11.out.size))); clear hb cP11 mP11 cQ11 mQ11 cR11 mR11 cS11 mS11 cC11 mC11))
                  go_upto_region 16 with (go_at_call 22; (with_reducible refine (HLO.out v12 B12.out).mono ?_); (rintro e v13 ⟨rfl, hb⟩); (have HP13 := Lib.hid (HP12.out.below hb HP12.out.lt)); (have cP13 := HP13.out.cell); (have mP13 := HP13.out.lt); (have HQ13 := Lib.hid (HQ12.out.below hb HQ12.out.lt)); (have cQ13 := HQ13.out.cell); (have mQ13 := HQ13.out.lt); (have HR13 := Lib.hid (HR12.out.below hb HR12.out.lt)); (have cR13 := HR13.out.cell); (have mR13 := HR13.out.lt); (have HS13 := Lib.hid (HS12.out.below hb HS12.out.lt)); (have cS13 := HS13.out.cell); (have mS13 := HS13.out.lt); (have HC13 := Lib.hid (HC12.out.below hb HC12.out.lt)); (have cC13 := HC13.out.cell); (have mC13 := HC13.out.lt); (have W13 := Lib.hid (W12.out.later hb)); (have I13 := Lib.hid (I12.out.later hb)); (have B13 := Lib.hid (B12.out.trans (hb.mono B12.out.size))); clear hb cP12 mP12 cQ12 mQ12 cR12 mR12 cS12 mS12 cC12 mC12)
                  clear HLD HCP HF3 HK3 HT3 HF7 HK7 HPL1 HIR HIG HLO
                  go_wp2_with fail
                  go_loopw [14] (fun i (wr : World) => ∃ k : Nat, k ≤ n ∧ i = .int .i64 k ∧ wr = v13) (fun i _ => n - (intOf i).toNat)
                  case atStart => exact ⟨0, by omega, by simp, rfl⟩
                  case round =>
                    obtain ⟨k, hk, rfl, rfl⟩ := hrel
                    by_cases hkn : k < n
                    · have hkB : decide ((k : Int) < n) = true := decide_eq_true (by omega)
                      have vk : IntKind.i64.wrap ((k : Int) + 1) = (k : Int) + 1 := IntWalk.i64_in _ (by omega)
                      have HX := Lib.hid (HIN.out k hkn B d _ I13.out)
                      cases hy : y.testBit k
                      · rw [hy] at HX
                        obtain ⟨b, o, hA, hbl, x0, x1⟩ := W13.out.get hkn
                        subst hA
                        have hx := HCL.out k hkn
                        have hx2 := HGL.out k hkn hy
                        obtain ⟨x, hxe⟩ : ∃ x, (spAt ls k).lo = x := ⟨_, rfl⟩
                        rw [hxe] at x0 hx hx2
                        have t0 : s1 * den ≤ x * den := Int.mul_le_mul_of_nonneg_right hx2 (by omega)
                        have t1 : x * den ≤ 9999 * 1000000000 := Int.mul_le_mul hx.2 hdB (by omega) (by omega)
                        have t2 : 0 ≤ x * den := Int.mul_nonneg hx.1 (by omega)
                        have v1 : IntKind.i64.wrap (x * den) = x * den := IntWalk.i64_in _ (by omega)
                        have v2 : decide (x * den < num) = false := decide_eq_false (by omega)
                        clear hxe hy x1
                        go_wp2_with (go_at_call 23; (with_reducible refine HX.out.mono ?_); (rintro e v98 ⟨rfl, rfl⟩))
                        go_roundw
                        case rel => exact ⟨k + 1, by omega, by go_num, trivial⟩
                        case measure => simp [intOf]; omega
                      · rw [hy] at HX
                        clear hy
                        go_wp2_with (go_at_call 23; (with_reducible refine HX.out.mono ?_); (rintro e v98 ⟨rfl, rfl⟩))
                        go_roundw
                        case rel => exact ⟨k + 1, by omega, by go_num, trivial⟩
                        case measure => simp [intOf]; omega
                    · obtain rfl : n = k := by omega
                      have hkB : decide (((n : Nat) : Int) < n) = false := decide_eq_false (by omega)
                      go_wp2_with (go_at_call 17; refine (mended_c _).mono ?_; (rintro e v99 ⟨rfl, hb99⟩); (have B99 := Lib.hid (B13.out.trans (hb99.mono B13.out.size))); clear hb99)
                      go_ret
                      exact ⟨rfl, B99.out⟩

end Go.Proofs.Ytglpgcgidkdkiaa
