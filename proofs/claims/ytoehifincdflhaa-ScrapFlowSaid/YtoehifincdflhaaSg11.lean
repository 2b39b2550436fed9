/- Fits of scrap (layer 11). -/
import Derived.Test.YtoehifincdflhaaSf11
namespace Go.Proofs.Ytoehifincdflhaa
open Go.RowKit
open Go.Sort (grow)
set_option linter.unusedVariables false

set_option maxRecDepth 100000 in
set_option maxHeartbeats 3200000 in
theorem fits_c (Ap Al Aw As : Option Addr) (np cp nl cl nw cw ns cs : Nat) (wrg : Int) (pl : List Sp) (ls : List Ln) (ws ss : List Int) (w : World) (hp : np ≤ 40) (hl : nl ≤ 40) (hw : nw ≤ 40) (hs : ns ≤ 40) (HP : SpsAt w Ap np pl) (HL : LnsAt w Al nl ls) (HW : IntsAt w Aw nw ws) (HS : IntsAt w As ns ss) :
    Calls Try.prog 39 #[.agg #[.slice Ap np cp, .slice Al nl cl, .int .i64 wrg], .agg #[.slice Aw nw cw, .slice As ns cs]] w
      fun e w' => e = .returned (.tuple #[.bool (fitR np nl nw ns pl ls wrg ws ss).1, .int .i64 (fitR np nl nw ns pl ls wrg ws ss).2]) ∧ Below w.heap.size w w' := by
  have HPI := Lib.hid HP
  have HLI := Lib.hid HL
  have HWI := Lib.hid HW
  have HSI := Lib.hid HS
  cases hck : ckBk np nl pl ls wrg
  · have e0 : erB (ckBk np nl pl ls wrg) = 110 := by rw [hck]; rfl
    have hr : fitR np nl nw ns pl ls wrg ws ss = (false, 110) := by simp [fitR, hck]
    rw [hr]
    clear HP HL HW HS hr hck
    go_enter Try.func39, Try.ntmps39
    go_wp2_with (go_at_call 37; refine (check_c Ap Al np cp nl cl wrg pl ls _ hp hl (HPI.out.later (by (repeat first | with_reducible assumption | with_reducible exact Below.refl _ _ | refine below_drewN ?_ _ | refine Below.drew ?_ | refine Below.alloc ?_ (by first | omega | (with_reducible exact Below.size (by assumption)) | (simp; done) | (simp; omega)) _ | refine Below.setCell ?_ (by first | omega | (with_reducible exact Below.size (by assumption)) | (simp; done) | (simp; omega)) _ | refine below_step (by assumption) (by first | omega | (with_reducible exact Below.size (by assumption)) | (simp; done) | (simp; omega)) ?_))) (HLI.out.later (by (repeat first | with_reducible assumption | with_reducible exact Below.refl _ _ | refine below_drewN ?_ _ | refine Below.drew ?_ | refine Below.alloc ?_ (by first | omega | (with_reducible exact Below.size (by assumption)) | (simp; done) | (simp; omega)) _ | refine Below.setCell ?_ (by first | omega | (with_reducible exact Below.size (by assumption)) | (simp; done) | (simp; omega)) _ | refine below_step (by assumption) (by first | omega | (with_reducible exact Below.size (by assumption)) | (simp; done) | (simp; omega)) ?_)))).mono ?_; rw [e0]; (rintro e w1 ⟨rfl, hb1⟩; obtain ⟨hc1, hf1⟩ := bcell hb1; have zs1 := hb1.size; (try simp at zs1); have n1_0 : w.heap.size < w1.heap.size := (by omega); have n1_1 : w.heap.size + 1 < w1.heap.size := (by omega)))
    exact bodyPost_ret (v := .tuple #[.bool false, .int .i64 110]) (by simp [results, Try.results39, go_sem]) rfl ⟨rfl, by (repeat first | with_reducible assumption | with_reducible exact Below.refl _ _ | refine below_drewN ?_ _ | refine Below.drew ?_ | refine Below.alloc ?_ (by first | omega | (with_reducible exact Below.size (by assumption)) | (simp; done) | (simp; omega)) _ | refine Below.setCell ?_ (by first | omega | (with_reducible exact Below.size (by assumption)) | (simp; done) | (simp; omega)) _ | refine below_step (by assumption) (by first | omega | (with_reducible exact Below.size (by assumption)) | (simp; done) | (simp; omega)) ?_)⟩
  have e0 : erB (ckBk np nl pl ls wrg) = 0 := by rw [hck]; rfl
  obtain ⟨hok, -, -⟩ := okBk_of HP.1 HL.1 hck
  have HK := Lib.hid hok
  have HCK := Lib.hid hck
  clear HP HL HW HS hck hok
  cases h0 : (nw == nl)
  · have hne : ((nw : Int) != nl) = true := by simp at h0 ⊢; omega
    have hr : fitR np nl nw ns pl ls wrg ws ss = (false, 1) := by simp [fitR, HCK.out, isAc, h0]
    rw [hr]
    clear hr
    go_enter Try.func39, Try.ntmps39
    go_wp2_with (go_at_call 37; refine (check_c Ap Al np cp nl cl wrg pl ls _ hp hl (HPI.out.later (by (repeat first | with_reducible assumption | with_reducible exact Below.refl _ _ | refine below_drewN ?_ _ | refine Below.drew ?_ | refine Below.alloc ?_ (by first | omega | (with_reducible exact Below.size (by assumption)) | (simp; done) | (simp; omega)) _ | refine Below.setCell ?_ (by first | omega | (with_reducible exact Below.size (by assumption)) | (simp; done) | (simp; omega)) _ | refine below_step (by assumption) (by first | omega | (with_reducible exact Below.size (by assumption)) | (simp; done) | (simp; omega)) ?_))) (HLI.out.later (by (repeat first | with_reducible assumption | with_reducible exact Below.refl _ _ | refine below_drewN ?_ _ | refine Below.drew ?_ | refine Below.alloc ?_ (by first | omega | (with_reducible exact Below.size (by assumption)) | (simp; done) | (simp; omega)) _ | refine Below.setCell ?_ (by first | omega | (with_reducible exact Below.size (by assumption)) | (simp; done) | (simp; omega)) _ | refine below_step (by assumption) (by first | omega | (with_reducible exact Below.size (by assumption)) | (simp; done) | (simp; omega)) ?_)))).mono ?_; rw [e0]; (rintro e w1 ⟨rfl, hb1⟩; obtain ⟨hc1, hf1⟩ := bcell hb1; have zs1 := hb1.size; (try simp at zs1); have n1_0 : w.heap.size < w1.heap.size := (by omega); have n1_1 : w.heap.size + 1 < w1.heap.size := (by omega)))
    have d0 := fun i => (hc1 w.heap.size i (by first | omega | (simp; done) | (simp; omega))).trans ((al2_0 rfl).2.1 i)
    have d1 := fun i => (hc1 (w.heap.size + 1) i (by first | omega | (simp; done) | (simp; omega))).trans ((al2_1 rfl).2.1 i)
    have hbw1 : Below w.heap.size w w1 := by (repeat first | with_reducible assumption | with_reducible exact Below.refl _ _ | refine below_drewN ?_ _ | refine Below.drew ?_ | refine Below.alloc ?_ (by first | omega | (with_reducible exact Below.size (by assumption)) | (simp; done) | (simp; omega)) _ | refine Below.setCell ?_ (by first | omega | (with_reducible exact Below.size (by assumption)) | (simp; done) | (simp; omega)) _ | refine below_step (by assumption) (by first | omega | (with_reducible exact Below.size (by assumption)) | (simp; done) | (simp; omega)) ?_)
    clear hc1 hf1 hb1
    go_wp2
    exact bodyPost_ret (v := .tuple #[.bool false, .int .i64 1]) (by simp [results, Try.results39, go_sem]) rfl ⟨rfl, hbw1⟩
  obtain rfl : nw = nl := by simpa using h0
  cases h1 : (ns == nw)
  · have hne : ((ns : Int) != nw) = true := by simp at h1 ⊢; omega
    have hr : fitR np nw nw ns pl ls wrg ws ss = (false, 1) := by simp [fitR, HCK.out, isAc, h1]
    rw [hr]
    clear hr
    go_enter Try.func39, Try.ntmps39
    go_wp2_with (go_at_call 37; refine (check_c Ap Al np cp nw cl wrg pl ls _ hp hl (HPI.out.later (by (repeat first | with_reducible assumption | with_reducible exact Below.refl _ _ | refine below_drewN ?_ _ | refine Below.drew ?_ | refine Below.alloc ?_ (by first | omega | (with_reducible exact Below.size (by assumption)) | (simp; done) | (simp; omega)) _ | refine Below.setCell ?_ (by first | omega | (with_reducible exact Below.size (by assumption)) | (simp; done) | (simp; omega)) _ | refine below_step (by assumption) (by first | omega | (with_reducible exact Below.size (by assumption)) | (simp; done) | (simp; omega)) ?_))) (HLI.out.later (by (repeat first | with_reducible assumption | with_reducible exact Below.refl _ _ | refine below_drewN ?_ _ | refine Below.drew ?_ | refine Below.alloc ?_ (by first | omega | (with_reducible exact Below.size (by assumption)) | (simp; done) | (simp; omega)) _ | refine Below.setCell ?_ (by first | omega | (with_reducible exact Below.size (by assumption)) | (simp; done) | (simp; omega)) _ | refine below_step (by assumption) (by first | omega | (with_reducible exact Below.size (by assumption)) | (simp; done) | (simp; omega)) ?_)))).mono ?_; rw [e0]; (rintro e w1 ⟨rfl, hb1⟩; obtain ⟨hc1, hf1⟩ := bcell hb1; have zs1 := hb1.size; (try simp at zs1); have n1_0 : w.heap.size < w1.heap.size := (by omega); have n1_1 : w.heap.size + 1 < w1.heap.size := (by omega)))
    have d0 := fun i => (hc1 w.heap.size i (by first | omega | (simp; done) | (simp; omega))).trans ((al2_0 rfl).2.1 i)
    have d1 := fun i => (hc1 (w.heap.size + 1) i (by first | omega | (simp; done) | (simp; omega))).trans ((al2_1 rfl).2.1 i)
    have hbw1 : Below w.heap.size w w1 := by (repeat first | with_reducible assumption | with_reducible exact Below.refl _ _ | refine below_drewN ?_ _ | refine Below.drew ?_ | refine Below.alloc ?_ (by first | omega | (with_reducible exact Below.size (by assumption)) | (simp; done) | (simp; omega)) _ | refine Below.setCell ?_ (by first | omega | (with_reducible exact Below.size (by assumption)) | (simp; done) | (simp; omega)) _ | refine below_step (by assumption) (by first | omega | (with_reducible exact Below.size (by assumption)) | (simp; done) | (simp; omega)) ?_)
    clear hc1 hf1 hb1
    go_wp2
    exact bodyPost_ret (v := .tuple #[.bool false, .int .i64 1]) (by simp [results, Try.results39, go_sem]) rfl ⟨rfl, hbw1⟩
  obtain rfl : ns = nw := by simpa using h1
  clear h0 h1
  go_enter Try.func39, Try.ntmps39
  go_wp2_with (go_at_call 37; refine (check_c Ap Al np cp ns cl wrg pl ls _ hp hl (HPI.out.later (by (repeat first | with_reducible assumption | with_reducible exact Below.refl _ _ | refine below_drewN ?_ _ | refine Below.drew ?_ | refine Below.alloc ?_ (by first | omega | (with_reducible exact Below.size (by assumption)) | (simp; done) | (simp; omega)) _ | refine Below.setCell ?_ (by first | omega | (with_reducible exact Below.size (by assumption)) | (simp; done) | (simp; omega)) _ | refine below_step (by assumption) (by first | omega | (with_reducible exact Below.size (by assumption)) | (simp; done) | (simp; omega)) ?_))) (HLI.out.later (by (repeat first | with_reducible assumption | with_reducible exact Below.refl _ _ | refine below_drewN ?_ _ | refine Below.drew ?_ | refine Below.alloc ?_ (by first | omega | (with_reducible exact Below.size (by assumption)) | (simp; done) | (simp; omega)) _ | refine Below.setCell ?_ (by first | omega | (with_reducible exact Below.size (by assumption)) | (simp; done) | (simp; omega)) _ | refine below_step (by assumption) (by first | omega | (with_reducible exact Below.size (by assumption)) | (simp; done) | (simp; omega)) ?_)))).mono ?_; rw [e0]; (rintro e w1 ⟨rfl, hb1⟩; obtain ⟨hc1, hf1⟩ := bcell hb1; have zs1 := hb1.size; (try simp at zs1); have n1_0 : w.heap.size < w1.heap.size := (by omega); have n1_1 : w.heap.size + 1 < w1.heap.size := (by omega)))
  have d0 := fun i => (hc1 w.heap.size i (by first | omega | (simp; done) | (simp; omega))).trans ((al2_0 rfl).2.1 i)
  have d1 := fun i => (hc1 (w.heap.size + 1) i (by first | omega | (simp; done) | (simp; omega))).trans ((al2_1 rfl).2.1 i)
  have hbw1 : Below w.heap.size w w1 := by (repeat first | with_reducible assumption | with_reducible exact Below.refl _ _ | refine below_drewN ?_ _ | refine Below.drew ?_ | refine Below.alloc ?_ (by first | omega | (with_reducible exact Below.size (by assumption)) | (simp; done) | (simp; omega)) _ | refine Below.setCell ?_ (by first | omega | (with_reducible exact Below.size (by assumption)) | (simp; done) | (simp; omega)) _ | refine below_step (by assumption) (by first | omega | (with_reducible exact Below.size (by assumption)) | (simp; done) | (simp; omega)) ?_)
  have z1 := hbw1.size
  clear hc1 hf1 hb1 e0
  go_wp2_with fail
  go_loopw [7, 36] (fun c i (wr : World) => ∃ k : Nat, k ≤ ns ∧ i = .int .i64 k ∧ c = .int .i64 (wrgN ls ws k) ∧ wrgN ls ws k ≤ k ∧ Hid (∀ j, j < k → acK ls ws ss j = true) ∧ Below w1.heap.size w1 wr) (fun _ i _ => ns - (intOf i).toNat)
  case atStart => exact ⟨0, by omega, rfl, rfl, by simp [wrgN], fun j hj => absurd hj (by omega), Below.refl _ _⟩
  case round =>
    obtain ⟨k, hk, rfl, rfl, hwk, H, hb⟩ := hrel
    obtain ⟨n, hn⟩ : ∃ n, wrgN ls ws k = n := ⟨_, rfl⟩
    have hsu := wrgN_succ ls ws k
    rw [hn] at hwk hsu ⊢
    obtain ⟨hc, hf⟩ := bcell hb
    have zb := hb.size
    have m0 := Nat.lt_of_lt_of_le n1_0 zb
    have m1 := Nat.lt_of_lt_of_le n1_1 zb
    have hbw : Below w.heap.size w wr := hbw1.trans (hb.mono z1)
    by_cases hlt : k < ns
    · have hB' : decide ((k : Int) < ns) = true := by simp; omega
      obtain ⟨bl, ol, rfl, hbl, x0, x1, x2, x3, x4, x5⟩ := (HLI.out.later hbw).get hlt
      obtain ⟨bw, ow, rfl, hbW, y0⟩ := (HWI.out.later hbw).get hlt
      obtain ⟨bs, os, rfl, hbS, z0⟩ := (HSI.out.later hbw).get hlt
      cases e1 : wi (iAt ws k) (lnAt ls k).s.hi 999
      · have hA : fitR np ns ns ns pl ls wrg ws ss = (false, 1) := by
          simp [fitR, HCK.out, isAc, allN_no (p := acK ls ws ss) hlt (by simp [acK, e1])]
        replace hA := Lib.hid hA
        go_wp2
        go_quiet ((go_at_call 61; exact quiet_left (within_c _ _ _ _)))
        go_wp2
        exact bodyPost_ret (v := .tuple #[.bool false, .int .i64 1]) (by simp [results, Try.results39, go_sem]) rfl ⟨by rw [hA.out], by (repeat first | with_reducible assumption | with_reducible exact Below.refl _ _ | refine below_drewN ?_ _ | refine Below.drew ?_ | refine Below.alloc ?_ (by first | omega | (with_reducible exact Below.size (by assumption)) | (simp; done) | (simp; omega)) _ | refine Below.setCell ?_ (by first | omega | (with_reducible exact Below.size (by assumption)) | (simp; done) | (simp; omega)) _ | refine below_step (by assumption) (by first | omega | (with_reducible exact Below.size (by assumption)) | (simp; done) | (simp; omega)) ?_)⟩
      cases e2 : wi (iAt ss k) (lnAt ls k).s.lo (lnAt ls k).s.hi
      · have hA : fitR np ns ns ns pl ls wrg ws ss = (false, 1) := by
          simp [fitR, HCK.out, isAc, allN_no (p := acK ls ws ss) hlt (by simp [acK, e2])]
        replace hA := Lib.hid hA
        go_wp2
        go_quiet ((go_at_call 61; exact quiet_left (within_c _ _ _ _)))
        go_wp2
        exact bodyPost_ret (v := .tuple #[.bool false, .int .i64 1]) (by simp [results, Try.results39, go_sem]) rfl ⟨by rw [hA.out], by (repeat first | with_reducible assumption | with_reducible exact Below.refl _ _ | refine below_drewN ?_ _ | refine Below.drew ?_ | refine Below.alloc ?_ (by first | omega | (with_reducible exact Below.size (by assumption)) | (simp; done) | (simp; omega)) _ | refine Below.setCell ?_ (by first | omega | (with_reducible exact Below.size (by assumption)) | (simp; done) | (simp; omega)) _ | refine below_step (by assumption) (by first | omega | (with_reducible exact Below.size (by assumption)) | (simp; done) | (simp; omega)) ?_)⟩
      cases e3 : wi (iAt ws k) (lnAt ls k).w.lo (lnAt ls k).w.hi
      · rw [isRt, e3] at hsu
        simp only [cond_false] at hsu
        go_wp2
        go_quiet ((go_at_call 61; exact quiet_left (within_c _ _ _ _)))
        go_wp2_with fail
        go_name_world W5 hW5
        have hb5 : Below wr.heap.size wr W5 := by rw [← hW5]; (repeat first | with_reducible assumption | with_reducible exact Below.refl _ _ | refine below_drewN ?_ _ | refine Below.drew ?_ | refine Below.alloc ?_ (by first | omega | (with_reducible exact Below.size (by assumption)) | (simp; done) | (simp; omega)) _ | refine Below.setCell ?_ (by first | omega | (with_reducible exact Below.size (by assumption)) | (simp; done) | (simp; omega)) _ | refine below_step (by assumption) (by first | omega | (with_reducible exact Below.size (by assumption)) | (simp; done) | (simp; omega)) ?_)
        have u0 : ∀ j, W5.cell? ⟨wr.heap.size, j, none⟩ = #[Value.int .i64 (lnAt ls k).fr, .int .i64 (lnAt ls k).to, .int .i64 (lnAt ls k).w.lo, .int .i64 (lnAt ls k).w.hi, .int .i64 (lnAt ls k).s.lo, .int .i64 (lnAt ls k).s.hi][j]? := fun j => by rw [← hW5]; exact World.cell?_alloc_new _ _ _ j
        have v0 := fun i => (hb5.cell (p := ⟨w.heap.size, i, none⟩) m0).trans ((hc _ i n1_0).trans (d0 i))
        have v1 := fun i => (hb5.cell (p := ⟨w.heap.size + 1, i, none⟩) m1).trans ((hc _ i n1_1).trans (d1 i))
        have v2 := (hb5.cell (p := ⟨bw, ow + k, none⟩) hbW).trans y0
        clear hW5
        go_quiet ((go_at_call 61; exact quiet_left (within_c _ _ _ _)))
        go_wp2
        refine ⟨⟨k + 1, by omega, by simp, by rw [hsu]; simp, by omega, fun j hj => ?_, by (repeat first | with_reducible assumption | with_reducible exact Below.refl _ _ | refine below_drewN ?_ _ | refine Below.drew ?_ | refine Below.alloc ?_ (by first | omega | (with_reducible exact Below.size (by assumption)) | (simp; done) | (simp; omega)) _ | refine Below.setCell ?_ (by first | omega | (with_reducible exact Below.size (by assumption)) | (simp; done) | (simp; omega)) _ | refine below_step (by assumption) (by first | omega | (with_reducible exact Below.size (by assumption)) | (simp; done) | (simp; omega)) ?_)⟩, by simp [intOf]; omega⟩
        rcases Nat.lt_succ_iff_lt_or_eq.1 hj with h | rfl
        · exact H.out j h
        · simp [acK, e1, e2]
      · rw [isRt, e3] at hsu
        simp only [cond_true, Nat.add_zero] at hsu
        go_wp2
        go_quiet ((go_at_call 61; exact quiet_left (within_c _ _ _ _)))
        go_wp2_with fail
        go_name_world W5 hW5
        have hb5 : Below wr.heap.size wr W5 := by rw [← hW5]; (repeat first | with_reducible assumption | with_reducible exact Below.refl _ _ | refine below_drewN ?_ _ | refine Below.drew ?_ | refine Below.alloc ?_ (by first | omega | (with_reducible exact Below.size (by assumption)) | (simp; done) | (simp; omega)) _ | refine Below.setCell ?_ (by first | omega | (with_reducible exact Below.size (by assumption)) | (simp; done) | (simp; omega)) _ | refine below_step (by assumption) (by first | omega | (with_reducible exact Below.size (by assumption)) | (simp; done) | (simp; omega)) ?_)
        have u0 : ∀ j, W5.cell? ⟨wr.heap.size, j, none⟩ = #[Value.int .i64 (lnAt ls k).fr, .int .i64 (lnAt ls k).to, .int .i64 (lnAt ls k).w.lo, .int .i64 (lnAt ls k).w.hi, .int .i64 (lnAt ls k).s.lo, .int .i64 (lnAt ls k).s.hi][j]? := fun j => by rw [← hW5]; exact World.cell?_alloc_new _ _ _ j
        have v0 := fun i => (hb5.cell (p := ⟨w.heap.size, i, none⟩) m0).trans ((hc _ i n1_0).trans (d0 i))
        have v1 := fun i => (hb5.cell (p := ⟨w.heap.size + 1, i, none⟩) m1).trans ((hc _ i n1_1).trans (d1 i))
        have v2 := (hb5.cell (p := ⟨bw, ow + k, none⟩) hbW).trans y0
        clear hW5
        go_quiet ((go_at_call 61; exact quiet_left (within_c _ _ _ _)))
        go_wp2
        refine ⟨⟨k + 1, by omega, by simp, by rw [hsu], by omega, fun j hj => ?_, by (repeat first | with_reducible assumption | with_reducible exact Below.refl _ _ | refine below_drewN ?_ _ | refine Below.drew ?_ | refine Below.alloc ?_ (by first | omega | (with_reducible exact Below.size (by assumption)) | (simp; done) | (simp; omega)) _ | refine Below.setCell ?_ (by first | omega | (with_reducible exact Below.size (by assumption)) | (simp; done) | (simp; omega)) _ | refine below_step (by assumption) (by first | omega | (with_reducible exact Below.size (by assumption)) | (simp; done) | (simp; omega)) ?_)⟩, by simp [intOf]; omega⟩
        rcases Nat.lt_succ_iff_lt_or_eq.1 hj with h | rfl
        · exact H.out j h
        · simp [acK, e1, e2]
    · obtain rfl : ns = k := by omega
      have hB' : decide (((ns : Nat) : Int) < ns) = false := (by simp)
      have hac : isAc ns ns ns ls ws ss = true := by simp [isAc, allN_iff.2 H.out]
      obtain ⟨-, -, bw, bs⟩ := acc_bd HWI.out.1 HSI.out.1 HK.out hac
      have hfr : fitR np ns ns ns pl ls wrg ws ss = (allN np (fun p => wi (chgN ls ws ss p ns) (spAt pl p).lo (spAt pl p).hi) && decide ((wrgN ls ws ns : Int) ≤ wrg), 0) := by simp [fitR, HCK.out, isTr, hac]
      rw [hn] at hfr
      have HTR := Lib.hid hfr
      have BW := Lib.hid bw
      have BS := Lib.hid bs
      clear hfr bw bs hac H hsu hn
      go_wp2_with fail
      clear hc hf m0 m1
      obtain ⟨wo, rfl⟩ : ∃ wo : World, wo = wr := ⟨_, rfl⟩
      go_loopw [85] (fun i (wr : World) => ∃ k : Nat, k ≤ np ∧ i = .int .i64 k ∧ Hid (∀ j, j < k → wi (chgN ls ws ss (j : Int) ns) (spAt pl j).lo (spAt pl j).hi = true) ∧ Below w1.heap.size w1 wr) (fun i _ => np - (intOf i).toNat)
      case atStart => exact ⟨0, by omega, rfl, fun j hj => absurd hj (by omega), hb⟩
      case round =>
        obtain ⟨k, hk, rfl, H, hb⟩ := hrel
        obtain ⟨hc, hf⟩ := bcell hb
        have zb := hb.size
        have m0 := Nat.lt_of_lt_of_le n1_0 zb
        have m1 := Nat.lt_of_lt_of_le n1_1 zb
        have hbw : Below w.heap.size w wr := hbw1.trans (hb.mono z1)
        by_cases hlt : k < np
        · have hB' : decide ((k : Int) < np) = true := by simp; omega
          obtain ⟨bp, op, rfl, hbp, x0, x1⟩ := (HPI.out.later hbw).get hlt
          go_wp2_with fail
          go_name_world W5 hW5
          have hb5 : Below wr.heap.size wr W5 := by rw [← hW5]; (repeat first | with_reducible assumption | with_reducible exact Below.refl _ _ | refine below_drewN ?_ _ | refine Below.drew ?_ | refine Below.alloc ?_ (by first | omega | (with_reducible exact Below.size (by assumption)) | (simp; done) | (simp; omega)) _ | refine Below.setCell ?_ (by first | omega | (with_reducible exact Below.size (by assumption)) | (simp; done) | (simp; omega)) _ | refine below_step (by assumption) (by first | omega | (with_reducible exact Below.size (by assumption)) | (simp; done) | (simp; omega)) ?_)
          have u0 : ∀ j, W5.cell? ⟨wr.heap.size, j, none⟩ = #[Value.int .i64 (spAt pl k).lo, .int .i64 (spAt pl k).hi][j]? := fun j => by rw [← hW5]; exact World.cell?_alloc_new _ _ _ j
          have v0 := fun i => (hb5.cell (p := ⟨w.heap.size, i, none⟩) m0).trans ((hc _ i n1_0).trans (d0 i))
          have v1 := fun i => (hb5.cell (p := ⟨w.heap.size + 1, i, none⟩) m1).trans ((hc _ i n1_1).trans (d1 i))
          have hb15 : Below w1.heap.size w1 W5 := hb.trans (hb5.mono zb)
          have lw5 : wr.heap.size < W5.heap.size := by rw [← hW5]; simp
          have hw5 : Below w.heap.size w W5 := hbw.trans (hb5.mono hbw.size)
          have p0 := Nat.lt_of_lt_of_le m0 hb5.size
          have p1 := Nat.lt_of_lt_of_le m1 hb5.size
          clear hW5 hc hf d0 d1
          cases e1 : wi (chgN ls ws ss (k : Int) ns) (spAt pl k).lo (spAt pl k).hi
          · have hA := Lib.hid (allN_no (p := fun p : Nat => wi (chgN ls ws ss (p : Int) ns) (spAt pl p).lo (spAt pl p).hi) hlt e1)
            have hcq := fun p : Regrown => (bcell (below_regrown W5 p.d p.os)).1
            refine wp_region_quiet_below (by kernel_rfl) (by kernel_rfl) ?_
            repeat (go_big_quiet_step (((first | (go_at_call 61; exact Calls.regrown_of ((within_c _ _ _ _).mono (by rintro e w' ⟨rfl, rfl⟩; exact ⟨rfl, Below.refl _ _⟩))) | (go_at_call 66; exact Calls.regrown_of (change_c _ _ _ _ _ _ _ _ _ _ _ _ _ _ ls ws ss _ (by omega) hw hs (Nat.le_refl _) (Nat.le_refl _) (HLI.out.later (hw5.trans ((below_regrown _ _ _).mono hw5.size))) (HWI.out.later (hw5.trans ((below_regrown _ _ _).mono hw5.size))) (HSI.out.later (hw5.trans ((below_regrown _ _ _).mono hw5.size))) BW.out BS.out))))))
            refine wpQuiet_nil ?_
            intro w2 hq
            obtain ⟨pq, hq⟩ := hq
            have hb2 : Below W5.heap.size W5 w2 := by rw [hq]; exact below_regrown _ _ _
            clear hq hcq pq
            obtain ⟨hc2, hf2⟩ := bcell hb2
            have z2 := hb2.size
            go_wp2
            exact bodyPost_ret (v := .tuple #[.bool false, .int .i64 0]) (by simp [results, Try.results39, go_sem]) rfl ⟨by rw [HTR.out, hA.out]; rfl, by (repeat first | with_reducible assumption | with_reducible exact Below.refl _ _ | refine below_drewN ?_ _ | refine Below.drew ?_ | refine Below.alloc ?_ (by first | omega | (with_reducible exact Below.size (by assumption)) | (simp; done) | (simp; omega)) _ | refine Below.setCell ?_ (by first | omega | (with_reducible exact Below.size (by assumption)) | (simp; done) | (simp; omega)) _ | refine below_step (by assumption) (by first | omega | (with_reducible exact Below.size (by assumption)) | (simp; done) | (simp; omega)) ?_)⟩
          · skip
            have hcq := fun p : Regrown => (bcell (below_regrown W5 p.d p.os)).1
            refine wp_region_quiet_below (by kernel_rfl) (by kernel_rfl) ?_
            repeat (go_big_quiet_step (((first | (go_at_call 61; exact Calls.regrown_of ((within_c _ _ _ _).mono (by rintro e w' ⟨rfl, rfl⟩; exact ⟨rfl, Below.refl _ _⟩))) | (go_at_call 66; exact Calls.regrown_of (change_c _ _ _ _ _ _ _ _ _ _ _ _ _ _ ls ws ss _ (by omega) hw hs (Nat.le_refl _) (Nat.le_refl _) (HLI.out.later (hw5.trans ((below_regrown _ _ _).mono hw5.size))) (HWI.out.later (hw5.trans ((below_regrown _ _ _).mono hw5.size))) (HSI.out.later (hw5.trans ((below_regrown _ _ _).mono hw5.size))) BW.out BS.out))))))
            refine wpQuiet_nil ?_
            intro w2 hq
            obtain ⟨pq, hq⟩ := hq
            have hb2 : Below W5.heap.size W5 w2 := by rw [hq]; exact below_regrown _ _ _
            clear hq hcq pq
            obtain ⟨hc2, hf2⟩ := bcell hb2
            have z2 := hb2.size
            go_wp2
            refine ⟨⟨k + 1, by omega, by simp, fun j hj => ?_, by (repeat first | with_reducible assumption | with_reducible exact Below.refl _ _ | refine below_drewN ?_ _ | refine Below.drew ?_ | refine Below.alloc ?_ (by first | omega | (with_reducible exact Below.size (by assumption)) | (simp; done) | (simp; omega)) _ | refine Below.setCell ?_ (by first | omega | (with_reducible exact Below.size (by assumption)) | (simp; done) | (simp; omega)) _ | refine below_step (by assumption) (by first | omega | (with_reducible exact Below.size (by assumption)) | (simp; done) | (simp; omega)) ?_)⟩, by simp [intOf]; omega⟩
            rcases Nat.lt_succ_iff_lt_or_eq.1 hj with h | rfl
            · exact H.out j h
            · exact e1
        · obtain rfl : np = k := by omega
          have hA := Lib.hid (allN_iff.2 H.out)
          have hB' : decide (((np : Nat) : Int) < np) = false := (by simp)
          clear H
          go_wp2
          exact bodyPost_ret (v := .tuple #[.bool (decide ((n : Int) ≤ wrg)), .int .i64 0]) (by simp [results, Try.results39, go_sem]) rfl ⟨by rw [HTR.out, hA.out]; rfl, by (repeat first | with_reducible assumption | with_reducible exact Below.refl _ _ | refine below_drewN ?_ _ | refine Below.drew ?_ | refine Below.alloc ?_ (by first | omega | (with_reducible exact Below.size (by assumption)) | (simp; done) | (simp; omega)) _ | refine Below.setCell ?_ (by first | omega | (with_reducible exact Below.size (by assumption)) | (simp; done) | (simp; omega)) _ | refine below_step (by assumption) (by first | omega | (with_reducible exact Below.size (by assumption)) | (simp; done) | (simp; omega)) ?_)⟩

end Go.Proofs.Ytoehifincdflhaa
