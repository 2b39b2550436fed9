/- mended: the examples of the statements across layers (7); TopPulled, the plain part: what the plan of a cable without doubt leaves holds the load; what Load gives where a truth is. -/
import Derived.Test.YtglpgcgidkdkiaaQd18
import Derived.Test.YtglpgcgidkdkiaaQd39
import Derived.Test.YtglpgcgidkdkiaaQd40
import Derived.Test.YtglpgcgidkdkiaaQd17
import Derived.Test.YtglpgcgidkdkiaaQd15
import Derived.Shelf.Abstract
import Derived.Laws.EntriesVeiled
import Derived.Handy
import Derived.Deep.DrawnRows
import Derived.Deep.DeepCutAuto
import Derived.Test.YtglpgcgidkdkiaaQd42
import Derived.Test.YtglpgcgidkdkiaaQd16
import Derived.Test.YtglpgcgidkdkiaaQd45
import Derived.Test.YtglpgcgidkdkiaaQd46
import Derived.Test.YtglpgcgidkdkiaaQd08
namespace Go.Proofs.Ytglpgcgidkdkiaa
open Go.RowKit
open Go.Sort (grow)
set_option linter.unusedVariables false
set_option linter.unusedSimpArgs false

theorem mnd_ck : ck2 [⟨1, 0, 0, 1, 0⟩] [] 1 0 0 = true := by decide +kernel
theorem mnd_ln : ln2 [⟨1, 0, 0, 1, 0⟩] 1 = 1 := by decide +kernel
theorem Length_mnd (A : Option Addr) (W : World) (HD : DdsAt W A 1 [⟨1, 0, 0, 1, 0⟩]) :
    Calls Try.prog 44 #[.agg #[.slice A 1 1, .slice none 0 0, .int .i64 0]] W fun e w' => e = .returned (.tuple #[.int .i64 1, .int .i64 0]) ∧ Below W.heap.size W w' := by
  have := Length2_c A none 1 1 0 0 0 [⟨1, 0, 0, 1, 0⟩] [] W (by omega) (by omega) mnd_ck HD ⟨rfl, fun h => absurd h (by omega)⟩
  rw [mnd_ln] at this
  exact this
set_option maxRecDepth 100000 in
set_option maxHeartbeats 1600000 in
theorem mended_c (w : World) :
    Calls Try.prog 17 #[] w fun e w' => e = .returned (.bool true) ∧ Below w.heap.size w w' := by
  have hq : CbOk exQ7 := by unfold CbOk exQ7; decide
  have c1 : Hid (∀ (A : Option Addr) (W : World), SpsAt W A 7 exL7 → Calls Try.prog 40 #[.agg #[.slice A 7 7, .int .i64 40, .int .i64 1, .int .i64 0, .int .i64 2, .int .i64 1]] W fun e W' => e = .returned (.tuple #[.int .i64 2, .int .i64 0]) ∧ Below W.heap.size W W') := Lib.hid fun A W h => by
    have := fewest_c_q7 A 7 7 exQ7 exL7 W (by omega) hq h
    rw [ev_pl, ev_er] at this
    exact this
  have c4 : Hid (∀ (A : Option Addr) (W : World), SpsAt W A 7 exL7 → Calls Try.prog 42 #[.agg #[.slice A 7 7, .int .i64 40, .int .i64 1, .int .i64 0, .int .i64 2, .int .i64 1], .int .i64 2] W fun e W' => e = .returned (.tuple #[.int .i64 50, .int .i64 0]) ∧ Below W.heap.size W W') := Lib.hid fun A W h => by
    have := strong_c A 7 7 exQ7 2 exL7 W (by omega) hq h
    rw [ev_sr] at this
    exact this
  have c5 : Hid (∀ (W W' : World) (g : Nat), W.heap.size = g → W' = W.alloc (.cells #[.int .i64 1, .int .i64 0, .int .i64 0, .int .i64 1, .int .i64 0] 108) → DdsAt W' (some ⟨g, 0, none⟩) 1 [⟨1, 0, 0, 1, 0⟩]) := Lib.hid fun W W' g hg h => by rw [h]; exact (show DdsAt _ _ _ _ from sl_new (d := (⟨0, 0, 0, 0, 0⟩ : Dd)) encD_len hg rfl rfl)
  clear hq
  go_enter Try.func17, Try.ntmps17
  go_upto_region 2 with (first | (go_at_call 41; refine (Example_c_q7 _).mono ?_; (rintro e w1 ⟨A, rfl, h1, hb1⟩); (have H1 := Lib.hid h1); (have B1 := Lib.hid hb1); clear h1 hb1) | (go_at_call 40; refine (c1.out A w1 H1.out).mono ?_; (rintro e w2 ⟨rfl, hb2⟩); (have B2 := Lib.hid (B1.out.trans (hb2.mono B1.out.size))); clear hb2))
  go_upto_region 3 with (first | (go_at_call 41; refine (Example_c_q7 _).mono ?_; (rintro e w3 ⟨A3, rfl, h3, hb3⟩); (have H3 := Lib.hid h3); (have B3 := Lib.hid (B2.out.trans (hb3.mono B2.out.size))); clear h3 hb3) | (go_at_call 42; refine (c4.out A3 w3 H3.out).mono ?_; (rintro e w4 ⟨rfl, hb4⟩); (have B4 := Lib.hid (B3.out.trans (hb4.mono B3.out.size))); clear hb4))
  go_upto_region 4 with (first | (go_at_call 30; refine (Example3_c _).mono ?_; (rintro e w5 ⟨Al, Ab, rfl, h5, k5, hb5⟩); (have H5 := Lib.hid h5); (have K5 := Lib.hid k5); (have B5 := Lib.hid (B4.out.trans (hb5.mono B4.out.size))); clear h5 k5 hb5) | (go_at_call 43; refine (Many_ex3 Al Ab w5 H5.out K5.out).mono ?_; (rintro e w6 ⟨rfl, hb6⟩); (have B6 := Lib.hid (B5.out.trans (hb6.mono B5.out.size))); clear hb6))
  go_wp2_with (go_at_call 44; refine (Length_mnd _ _ (c5.out _ _ _ rfl rfl)).mono ?_; (rintro e w7 ⟨rfl, hb7⟩); (have B7 := Lib.hid (B6.out.trans (((Below.refl _ _).alloc (Nat.le_refl _) _).trans (hb7.mono (by simp)) |>.mono B6.out.size))); clear hb7)
  go_ret
  exact ⟨rfl, B7.out⟩

end Go.Proofs.Ytglpgcgidkdkiaa

namespace Go.Proofs.Ytglpgcgidkdkiaa
open Go.RowKit
open Go.Sort (grow)
set_option linter.unusedVariables false
set_option linter.unusedSimpArgs false

theorem ckC_with {n : Nat} {ls : List Sp} {q : Cb} {x : Int} (h : ckC n ls q = true) (h1 : 0 ≤ x ∧ x ≤ 9999) : ckC n ls { q with need := x, doubt := 0 } = true := by
  simp only [ckC, Bool.and_eq_true] at h ⊢
  exact ⟨⟨h.1.1, wi_true_q7.2 h1, h.1.2.2.1, wi_true_q7.2 (by decide), h.1.2.2.2.2⟩, h.2⟩
theorem ckC_lo {n : Nat} {ls : List Sp} {q : Cb} {k : Nat} (h : ckC n ls q = true) (hk : k < n) : 0 ≤ (spAt ls k).lo ∧ (spAt ls k).lo ≤ 9999 := by
  simp only [ckC, Bool.and_eq_true, allN_iff] at h
  have := h.2 k hk
  simp only [ckSp7, Bool.not_eq_true', Bool.or_eq_false_iff, Bool.not_eq_false', wi_true_q7, decide_eq_false_iff_not] at this
  omega
theorem good_lo {n : Nat} {ls : List Sp} {q : Cb} {x i : Nat} (h : goodB q ls n x = true) (hd : q.doubt = 0) (hi : i < n) (hx : x.testBit i = false) : q.need ≤ (spAt ls i).lo := by
  have h2 := (goodB_iff.1 h).2.1
  rw [hd] at h2
  have h3 : dbt q.need ls x n = 0 := by omega
  unfold dbt at h3
  have h4 := List.eq_nil_of_length_eq_zero h3
  refine Int.not_lt.1 fun hl => ?_
  have : i ∈ (List.range n).filter fun i => !x.testBit i && decide ((spAt ls i).lo < q.need) := List.mem_filter.2 ⟨List.mem_range.2 hi, by simp [hx, hl]⟩
  rw [h4] at this
  cases this
theorem isR_memT (y n : Nat) : isR n (memN y n).length (ints (memN y n)) = true := by
  have hm : ∀ i ∈ memN y n, i < n := fun i hi => by simp [memN, List.mem_filter] at hi; exact hi.1
  have hp : (memN y n).Pairwise (· < ·) := List.Pairwise.filter _ List.pairwise_lt_range
  refine allN_iff.2 fun k hk => ?_
  unfold stO
  rw [Bool.and_eq_true, ints_at (List.getElem?_eq_getElem hk)]
  refine ⟨wi_true_q7.2 ?_, ?_⟩
  · have := hm _ (List.getElem_mem hk); omega
  · rw [Bool.not_eq_true', Bool.and_eq_false_iff]
    by_cases h0 : 0 < k
    · right
      rw [ints_at (List.getElem?_eq_getElem (show k - 1 < (memN y n).length by omega))]
      have := List.pairwise_iff_getElem.1 hp (k - 1) k (by omega) hk (by omega)
      simp; omega
    · left; simp; omega
theorem memN_le {y n : Nat} : (memN y n).length ≤ n := by
  unfold memN
  exact Nat.le_trans (List.length_filter_le _ _) (by simp)
/-- what Plan gives for a cable that is valid -/
theorem plan_with {n : Nat} {ls : List Sp} {q : Cb} (hc : ckC n ls q = true) : (erS_q7 n ls q = 3 ∧ plC n ls q = []) ∨ (erS_q7 n ls q = 0 ∧ ∃ y, plC n ls q = memN y n ∧ goodB q ls n y = true) := by
  unfold erS_q7 plC
  rw [hc]
  cases h : shL q ls n with
  | nil => exact .inl ⟨rfl, rfl⟩
  | cons y r => exact .inr ⟨rfl, y, rfl, (shL_mem (by rw [h]; exact List.mem_cons_self ..)).1.2⟩
/-- what Load gives where a truth is -/
theorem ldP_truth {nl nb : Nat} {wa l0 l1 wrg wt mi lk : Int} {lv : List Lv} {bl : List Bal} {us : List Int} (hc : ckM nl nb wa l0 l1 wrg lv bl = true) (hl : lv.length = nl) (hb : bl.length = nb) (ha : ask3 wt mi 0 = true) (ht : isT3 nl nb wa l0 l1 wrg (abK lv nl) lv bl us lk = true) :
    ∃ s0 s1 : Int, (ldP nl nb wa l0 l1 wrg lv bl wt mi).1.lo = s0 ∧ (ldP nl nb wa l0 l1 wrg lv bl wt mi).1.hi = s1 ∧ (ldP nl nb wa l0 l1 wrg lv bl wt mi).2 = 0 ∧ 0 ≤ s0 ∧ s0 ≤ s1 ∧ pl3 wa lk wt mi * abK lv nl ≤ s1 * prS3 us 0 nl ∧ 1 ≤ prS3 us 0 nl := by
  obtain ⟨ok, hlg⟩ := okM_of hc hl hb
  have hw : (0 ≤ wt ∧ wt ≤ 9999) ∧ 0 ≤ mi ∧ mi ≤ 99 := by
    unfold ask3 at ha
    simp only [Bool.and_eq_true, wn_true] at ha
    omega
  obtain ⟨y, hy, -, -⟩ := isT3_tr hl hb ht
  have hne : trS lv l0 l1 wa (abK lv nl) wrg bl ≠ [] := List.ne_nil_of_mem hy
  have h1 := hull_truth (wt := wt) (mi := mi) ok ht
  have h2 := hull_sane ok hw hne
  have hop : opE nl nb wa l0 l1 wrg lv bl (ask3 wt mi 0) = 0 := by
    unfold opE
    rw [hc, ha]
    cases h : trS lv l0 l1 wa (abK lv nl) wrg bl
    · exact absurd h hne
    · rfl
  unfold ldP
  rw [hop]
  exact ⟨_, _, rfl, rfl, rfl, h2.1, h2.2, h1.2.1, h1.2.2⟩
theorem isT3_arms {nl nb : Nat} {wa l0 l1 wrg lk : Int} {lv : List Lv} {bl : List Bal} {us : List Int} (hc : ckM nl nb wa l0 l1 wrg lv bl = true) (hl : lv.length = nl) (hb : bl.length = nb) (ht : isT3 nl nb wa l0 l1 wrg (abK lv nl) lv bl us lk = true) :
    us.length = nl ∧ ArmsOk nl lv us ∧ (0 ≤ lk ∧ lk ≤ 20) ∧ nl ≤ 3 ∧ (0 ≤ wa ∧ wa ≤ 9999) ∧ prS3 us 0 nl ≤ 1000000000 := by
  obtain ⟨ok, hlg⟩ := okM_of hc hl hb
  simp only [isT3, Bool.and_eq_true, beq_iff_eq, wn_true, allN_iff] at ht
  obtain ⟨h1, h2, h3, -⟩ := ht
  have hk := ok.lk
  have hn : nl ≤ 3 := by
    simp only [ckM, Bool.and_eq_true, Bool.not_eq_true', decide_eq_false_iff_not] at hc
    omega
  have har : ArmsOk nl lv us := fun k hk => ⟨⟨hlg k (by omega), (ok.lv k hk).1, (ok.lv k hk).2.2⟩, h3 k hk⟩
  have hp := (prS3_bd (lv := lv) (us := us) (n := nl) (fun k hk => ⟨⟨(har k hk).1.2.1, (har k hk).1.2.2⟩, (har k hk).2⟩) nl (Nat.le_refl _)).2
  exact ⟨h1, har, by omega, hn, ok.wa, Int.le_trans hp (pow3_bd hn (Nat.le_refl _))⟩

end Go.Proofs.Ytglpgcgidkdkiaa
