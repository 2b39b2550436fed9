/- TopArm walked: the load of a machine whose short arm was measured with rods; TopArm, the plain part: what Load gives for one arm; the lengths that a pull leaves. -/
import Derived.Test.YtglpgcgidkdkiaaQc26
import Derived.Test.YtglpgcgidkdkiaaQc27
import Derived.Test.YtglpgcgidkdkiaaQc21
import Derived.Test.YtglpgcgidkdkiaaQc41
import Derived.Test.YtglpgcgidkdkiaaQc43
import Derived.Test.YtglpgcgidkdkiaaQc44
import Derived.Test.YtglpgcgidkdkiaaQc46
import Derived.Shelf.Abstract
import Derived.Laws.EntriesVeiled
import Derived.Handy
import Derived.Deep.DrawnRows
import Derived.Deep.DeepCutAuto
namespace Go.Proofs.Ytglpgcgidkdkiaa
open Go.RowKit
open Go.Sort (grow)
set_option linter.unusedVariables false
set_option linter.unusedSimpArgs false

set_option maxRecDepth 100000 in
set_option maxHeartbeats 1600000 in
theorem arm_c (lg lo hi : Int) (w : World) :
    Calls Try.prog 11 #[.int .i64 lg, .int .i64 lo, .int .i64 hi] w fun e w' => ∃ Al, e = .returned (.agg #[.slice Al 1 1, .int .i64 0, .int .i64 0, .int .i64 0, .slice none 0 0, .int .i64 0]) ∧ LvsAt w' Al 1 [⟨lg, lo, hi⟩] ∧ Below w.heap.size w w' := by
  go_enter Try.func11, Try.ntmps11
  go_wp2_with fail
  have hC := fun (c1 : Array Value) (t1 : TypeId) => (al2_0 (w := w) (cs0 := #[Value.slice (some ⟨w.heap.size + 1, 0, none⟩) 1 1, .int .i64 0, .int .i64 0, .int .i64 0, .slice none 0 0, .int .i64 0]) (cs1 := c1) (t0 := 41) (t1 := t1) rfl).2.1
  refine bodyPost_ret (v := .agg #[.slice (some ⟨w.heap.size + 1, 0, none⟩) 1 1, .int .i64 0, .int .i64 0, .int .i64 0, .slice none 0 0, .int .i64 0]) ?_ rfl ⟨some ⟨w.heap.size + 1, 0, none⟩, rfl, (show LvsAt _ _ _ _ from sl_new (d := (⟨0, 0, 0⟩ : Lv)) encV_len (by simp) rfl rfl), by (repeat first | with_reducible assumption | with_reducible exact Below.refl _ _ | (with_reducible refine Below.alloc ?_ ?side _; case side => (first | omega | (with_reducible exact Below.size (by assumption)) | (simp; done) | (simp; omega))) | (with_reducible refine Below.setCell ?_ ?side _; case side => (first | omega | (with_reducible exact Below.size (by assumption)) | (simp; done) | (simp; omega))) | with_reducible refine Below.drew ?_ | with_reducible refine below_drewN ?_ _ | (with_reducible refine below_step (by assumption) ?side ?_; case side => (first | omega | (with_reducible exact Below.size (by assumption)) | (simp; done) | (simp; omega))))⟩
  simp [results, Try.results11, go_sem, hC]
set_option maxRecDepth 100000 in
set_option maxHeartbeats 1600000 in
theorem armed_c (w : World) :
    Calls Try.prog 8 #[] w fun e w' => e = .returned (.bool true) ∧ Below w.heap.size w w' := by
  have c1 : Hid (∀ (Ar Ad : Option Addr) (W : World), MemP Ar 2 Ad 2 exP W → Calls Try.prog 29 #[.agg #[.int .i64 12, .int .i64 9900, .int .i64 10200, .slice Ar 2 2, .slice Ad 2 2, .int .i64 0]] W fun e W' => e = .returned (.tuple #[.int .i64 50, .int .i64 0]) ∧ Below W.heap.size W W') := Lib.hid fun Ar Ad W h => by
    have := many4_c Ar 2 2 Ad 2 2 exP W (by omega) (by omega) h (fun _ => exP_len)
    rw [exP_many, exP_op] at this
    exact this
  go_enter Try.func8, Try.ntmps8
  go_upto_region 2 with (go_at_call 28; refine (Example4_c _).mono ?_; (rintro e w1 ⟨gr, gd, rfl, hne, hgr, hgd, hR, hD, hb1⟩); (have HR := Lib.hid hR); (have HD := Lib.hid hD); (have HB1 := Lib.hid hb1); clear hne hgr hgd hR hD hb1)
  go_name_world W hW
  have BW := (al2 hW).1
  have MM := Lib.hid (fun V (hV : Below W.heap.size W V) => (⟨sl_blk encR4_len ((HR.out.below BW HR.out.lt).below hV (HR.out.below BW HR.out.lt).lt) rfl rfl, sl_blk encE4_len ((HD.out.below BW HD.out.lt).below hV (HD.out.below BW HD.out.lt).lt) rfl rfl⟩ : MemP (some ⟨gr, 0, none⟩) 2 (some ⟨gd, 0, none⟩) 2 exP V))
  have q1 := (al2_0 hW).2.1
  have l1 := (al2_0 hW).1
  have HBW := Lib.hid (HB1.out.trans (BW.mono HB1.out.size))
  clear hW BW
  go_upto_region 3 with (go_at_call 29; refine (c1.out _ _ W (MM.out W (Below.refl _ _))).mono ?_; (rintro e w2 ⟨rfl, hb2⟩); (have HB2 := Lib.hid (HBW.out.trans (hb2.mono HBW.out.size))); clear hb2 q1 l1)
  go_upto_region 4 with (first | (go_at_call 30; refine (Example3_c _).mono ?_; (rintro e w3 ⟨Al, Ab, rfl, hL, hB, hb3⟩); (have HL := Lib.hid hL); (have HB := Lib.hid hB); (have HB3 := Lib.hid (HB2.out.trans (hb3.mono HB2.out.size))); clear hL hB hb3) | (go_at_call 10; refine (Load_ex3 Al Ab w3 HL.out HB.out).mono ?_; (rintro e w4 ⟨rfl, hb4⟩); (have HB4 := Lib.hid (HB3.out.trans (hb4.mono HB3.out.size))); clear hb4))
  go_name_world V hV
  have q5 := (al1_0 hV).2.1
  have l5 := (al1_0 hV).1
  have HBV := Lib.hid (HB4.out.trans ((al1 hV).1.mono HB4.out.size))
  clear hV
  go_wp2_with fail
  go_ret
  exact ⟨rfl, HBV.out⟩

end Go.Proofs.Ytglpgcgidkdkiaa

namespace Go.Proofs.Ytglpgcgidkdkiaa
open Go.RowKit
open Go.Sort (grow)
set_option linter.unusedVariables false
set_option linter.unusedSimpArgs false

theorem far4_no {p : P4} (h : far4 p = false) : p.rods.length ≤ 40 ∧ p.res.length ≤ 40 ∧ (ck4 p = true → Rdy4 p) := by
  have hr : ck4 p = true → Rdy4 p := fun hc => ready4_iff (by unfold ready4; rw [h, hc]; rfl)
  unfold far4 at h
  simp only [Bool.or_eq_false_iff, decide_eq_false_iff_not] at h
  exact ⟨by omega, by omega, hr⟩
theorem ckM_arm {lg lo hi : Int} (h1 : 1 ≤ lg ∧ lg ≤ 1000) (h2 : 1 ≤ lo ∧ lo ≤ hi ∧ hi ≤ 1000) : ckM 1 0 0 0 0 0 [⟨lg, lo, hi⟩] [] = true := by
  unfold ckM
  simp only [Bool.and_eq_true, Bool.not_eq_true', decide_eq_false_iff_not, allN_iff, wn_true]
  refine ⟨by omega, fun k hk => ?_, by omega, by omega, by omega, by omega, fun k hk => absurd hk (by omega), by omega⟩
  obtain rfl : k = 0 := by omega
  show ckLv ⟨lg, lo, hi⟩ = true
  simp only [ckLv, Bool.and_eq_true, Bool.not_eq_true', decide_eq_false_iff_not, wn_true]
  omega
theorem ldP_arm {lg lo hi wt : Int} (h1 : 1 ≤ lg ∧ lg ≤ 1000) (h2 : 1 ≤ lo ∧ lo ≤ hi ∧ hi ≤ 1000) (ha : ask3 wt 0 0 = true) :
    (ldP 1 0 0 0 0 0 [⟨lg, lo, hi⟩] [] wt 0).1.lo = wt * lg / hi ∧ (ldP 1 0 0 0 0 0 [⟨lg, lo, hi⟩] [] wt 0).1.hi = (wt * lg + lo - 1) / lo ∧ (ldP 1 0 0 0 0 0 [⟨lg, lo, hi⟩] [] wt 0).2 = 0 := by
  have hw : 0 ≤ wt := by
    unfold ask3 at ha
    simp only [Bool.and_eq_true, wn_true] at ha
    omega
  have hab : abK [⟨lg, lo, hi⟩] 1 = lg := by show 1 * lg = lg; omega
  have hne := arm_ne (lg := lg) (ab := lg) h2.2.1
  have hop : opE 1 0 0 0 0 0 [⟨lg, lo, hi⟩] [] (ask3 wt 0 0) = 0 := by
    unfold opE
    rw [ckM_arm h1 h2, ha, hab]
    cases h : trS [⟨lg, lo, hi⟩] 0 0 0 lg 0 []
    · exact absurd h hne
    · rfl
  have hh := arm_hull (lg := lg) (lo := lo) (hi := hi) (ab := lg) (wt := wt) h2.1 h2.2.1 (Int.mul_nonneg hw (by omega))
  unfold ldP
  rw [hop, hab]
  exact ⟨hh.1, hh.2, rfl⟩
theorem LoadArm_c (Al : Option Addr) (lg lo hi wt : Int) (w : World) (h1 : 1 ≤ lg ∧ lg ≤ 1000) (h2 : 1 ≤ lo ∧ lo ≤ hi ∧ hi ≤ 1000) (ha : ask3 wt 0 0 = true) (HL : LvsAt w Al 1 [⟨lg, lo, hi⟩]) :
    Calls Try.prog 10 #[.agg #[.slice Al 1 1, .int .i64 0, .int .i64 0, .int .i64 0, .slice none 0 0, .int .i64 0], .int .i64 wt, .int .i64 0] w fun e w' => e = .returned (.tuple #[.agg #[.int .i64 (wt * lg / hi), .int .i64 ((wt * lg + lo - 1) / lo)], .int .i64 0]) ∧ Below w.heap.size w w' := by
  have := Load_c Al 1 1 0 0 0 none 0 0 0 [⟨lg, lo, hi⟩] [] wt 0 w (by omega) (by omega) HL ⟨rfl, fun h => absurd h (by omega)⟩
  obtain ⟨e1, e2, e3⟩ := ldP_arm (wt := wt) h1 h2 ha
  rw [e1, e2, e3] at this
  exact this
/-- what Lengths gives: the mistake, and what is in the list -/
theorem lgs_arm {p : P4} (hc : ck4 p = true) (hr : Rdy4 p) : (op4 p true = 3 ∧ lgs4 p 1 = []) ∨ (op4 p true = 0 ∧ ∃ m, (lgs4 p 1).length = m + 1 ∧ m ≤ 8 ∧ (∀ k, k < m + 1 → p.glo ≤ iAt (lgs4 p 1) k ∧ iAt (lgs4 p 1) k ≤ p.ghi) ∧ ∀ j k, j ≤ k → k < m + 1 → iAt (lgs4 p 1) j ≤ iAt (lgs4 p 1) k) := by
  unfold lgs4
  rw [show when4 1 = true from rfl]
  unfold op4
  rw [hc]
  cases ht : tr4 p with
  | nil => exact Or.inl ⟨rfl, rfl⟩
  | cons x xs =>
    refine Or.inr ⟨rfl, ?_⟩
    rw [← ht]
    simp only [cond_true]
    rw [show (bif tr4 p |>.isEmpty then (3 : Int) else 0) = 0 by rw [ht]; rfl]
    rw [show (bif (0 : Int) == 0 then lg4 p (tr4 p) 1 else []) = lg4 p (tr4 p) 1 from rfl]
    have hx : x ∈ tr4 p := by rw [ht]; exact List.mem_cons_self ..
    have hm : fr4 x.b.2 ∈ lg4 p (tr4 p) 1 := mem_lg4.2 ⟨_, _, _, (tr4_ends hx).2.1, by rw [if_neg (by omega)]⟩
    have hl := lg4_len (p := p) (l := tr4 p) (wh := 1) hr.g8
    have hp := lg4_pair (p := p) (l := tr4 p) (wh := 1)
    have hin : ∀ n ∈ lg4 p (tr4 p) 1, p.glo ≤ n ∧ n ≤ p.ghi := fun n hn => ups_mem.1 (List.mem_filter.1 hn).1
    generalize lg4 p (tr4 p) 1 = L at hm hl hp hin
    have h0 := List.length_pos_of_mem hm
    refine ⟨L.length - 1, by omega, by omega, fun k hk => hin _ (iAt_mem (by omega)), fun j k hjk hk => ?_⟩
    rcases Nat.lt_or_eq_of_le hjk with h | rfl
    · have := (List.pairwise_iff_getElem.1 hp) j k (by omega) (by omega) h
      unfold iAt
      rw [List.getD_eq_getElem?_getD, List.getD_eq_getElem?_getD, List.getElem?_eq_getElem (by omega), List.getElem?_eq_getElem (by omega)]
      exact Int.le_of_lt this
    · exact Int.le_refl _

end Go.Proofs.Ytglpgcgidkdkiaa
