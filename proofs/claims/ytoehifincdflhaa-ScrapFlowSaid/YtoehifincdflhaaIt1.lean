/- IsTruth of the specification (layer 11). -/
import Derived.Test.YtoehifincdflhaaIa11
import Derived.Test.YtoehifincdflhaaAsk11
namespace Go.Proofs.Ytoehifincdflhaa
open Go.RowKit
open Go.Sort (grow)
set_option linter.unusedVariables false

def isTr (np nl nw ns : Nat) (pl : List Sp) (ls : List Ln) (wrg : Int) (ws ss : List Int) : Bool :=
  isAc nl nw ns ls ws ss && (allN np (fun p => wi (chgN ls ws ss p nl) (spAt pl p).lo (spAt pl p).hi) && decide ((wrgN ls ws nl : Int) ≤ wrg))
theorem acc_bd {np nl nw ns : Nat} {pl : List Sp} {ls : List Ln} {ws ss : List Int} (hw : ws.length = nw) (hs : ss.length = ns) (h : OkBk np nl pl ls) (ha : isAc nl nw ns ls ws ss = true) :
    nw = nl ∧ ns = nl ∧ (∀ k, 0 ≤ iAt ws k ∧ iAt ws k ≤ 999) ∧ ∀ k, 0 ≤ iAt ss k ∧ iAt ss k ≤ 999 := by
  simp only [isAc, Bool.and_eq_true, beq_iff_eq] at ha
  obtain ⟨⟨rfl, rfl⟩, h2⟩ := ha
  rw [allN_iff] at h2
  refine ⟨rfl, rfl, fun k => ?_, fun k => ?_⟩
  all_goals
    by_cases hk : k < ns
    · have h3 := h2 k hk
      have h4 := h.ln k
      simp only [acK, Bool.and_eq_true, wi_true] at h3
      omega
    · first
        | (have : iAt ws k = 0 := by (unfold iAt; rw [List.getD_eq_getElem?_getD, List.getElem?_eq_none (by omega)]; rfl)
           omega)
        | (have : iAt ss k = 0 := by (unfold iAt; rw [List.getD_eq_getElem?_getD, List.getElem?_eq_none (by omega)]; rfl)
           omega)

set_option maxRecDepth 100000 in
set_option maxHeartbeats 1600000 in
theorem IsTruth_c (Ap Al Aw As : Option Addr) (np cp nl cl nw cw ns cs : Nat) (wrg : Int) (pl : List Sp) (ls : List Ln) (ws ss : List Int) (w : World) (hok : OkBk np nl pl ls) (hw : nw ≤ 40) (hs : ns ≤ 40) (HP : SpsAt w Ap np pl) (HL : LnsAt w Al nl ls) (HW : IntsAt w Aw nw ws) (HS : IntsAt w As ns ss) :
    Calls Try.prog 19 #[.agg #[.slice Ap np cp, .slice Al nl cl, .int .i64 wrg], .agg #[.slice Aw nw cw, .slice As ns cs]] w
      fun e w' => e = .returned (.bool (isTr np nl nw ns pl ls wrg ws ss)) ∧ Below w.heap.size w w' := by
  have HPI := Lib.hid HP
  have HLI := Lib.hid HL
  have HWI := Lib.hid HW
  have HSI := Lib.hid HS
  have HK := Lib.hid hok
  have hl8 := hok.hl
  have hp5 := hok.hp
  clear HP HL HW HS hok
  cases e0 : isAc nl nw ns ls ws ss
  · go_enter Try.func19, Try.ntmps19
    go_wp2_with (go_at_call 50; refine (IsAccount_c Ap Al Aw As np cp nl cl nw cw ns cs wrg ls ws ss _ (by omega) hw hs (HLI.out.later (by (repeat first | with_reducible assumption | with_reducible exact Below.refl _ _ | refine below_drewN ?_ _ | refine Below.drew ?_ | refine Below.alloc ?_ (by first | omega | (with_reducible exact Below.size (by assumption)) | (simp; done) | (simp; omega)) _ | refine Below.setCell ?_ (by first | omega | (with_reducible exact Below.size (by assumption)) | (simp; done) | (simp; omega)) _ | refine below_step (by assumption) (by first | omega | (with_reducible exact Below.size (by assumption)) | (simp; done) | (simp; omega)) ?_))) (HWI.out.later (by (repeat first | with_reducible assumption | with_reducible exact Below.refl _ _ | refine below_drewN ?_ _ | refine Below.drew ?_ | refine Below.alloc ?_ (by first | omega | (with_reducible exact Below.size (by assumption)) | (simp; done) | (simp; omega)) _ | refine Below.setCell ?_ (by first | omega | (with_reducible exact Below.size (by assumption)) | (simp; done) | (simp; omega)) _ | refine below_step (by assumption) (by first | omega | (with_reducible exact Below.size (by assumption)) | (simp; done) | (simp; omega)) ?_))) (HSI.out.later (by (repeat first | with_reducible assumption | with_reducible exact Below.refl _ _ | refine below_drewN ?_ _ | refine Below.drew ?_ | refine Below.alloc ?_ (by first | omega | (with_reducible exact Below.size (by assumption)) | (simp; done) | (simp; omega)) _ | refine Below.setCell ?_ (by first | omega | (with_reducible exact Below.size (by assumption)) | (simp; done) | (simp; omega)) _ | refine below_step (by assumption) (by first | omega | (with_reducible exact Below.size (by assumption)) | (simp; done) | (simp; omega)) ?_)))).mono ?_; rw [e0]; (rintro e w1 ⟨rfl, hb1⟩; obtain ⟨hc1, hf1⟩ := bcell hb1; have zs1 := hb1.size; (try simp at zs1); have n1_0 : w.heap.size < w1.heap.size := (by omega); have n1_1 : w.heap.size + 1 < w1.heap.size := (by omega)))
    go_ret
    exact ⟨ret_bool (by simp [isTr, e0]), by (repeat first | with_reducible assumption | with_reducible exact Below.refl _ _ | refine below_drewN ?_ _ | refine Below.drew ?_ | refine Below.alloc ?_ (by first | omega | (with_reducible exact Below.size (by assumption)) | (simp; done) | (simp; omega)) _ | refine Below.setCell ?_ (by first | omega | (with_reducible exact Below.size (by assumption)) | (simp; done) | (simp; omega)) _ | refine below_step (by assumption) (by first | omega | (with_reducible exact Below.size (by assumption)) | (simp; done) | (simp; omega)) ?_)⟩
  obtain ⟨rfl, rfl, bw, bs⟩ := acc_bd HWI.out.1 HSI.out.1 HK.out e0
  have htr : isTr np ns ns ns pl ls wrg ws ss = (allN np (fun p => wi (chgN ls ws ss p ns) (spAt pl p).lo (spAt pl p).hi) && decide ((wrgN ls ws ns : Int) ≤ wrg)) := by simp [isTr, e0]
  have HTR := Lib.hid htr
  have BW := Lib.hid bw
  have BS := Lib.hid bs
  clear htr bw bs
  go_enter Try.func19, Try.ntmps19
  go_wp2_with (go_at_call 50; refine (IsAccount_c Ap Al Aw As np cp ns cl ns cw ns cs wrg ls ws ss _ (by omega) hw hs (HLI.out.later (by (repeat first | with_reducible assumption | with_reducible exact Below.refl _ _ | refine below_drewN ?_ _ | refine Below.drew ?_ | refine Below.alloc ?_ (by first | omega | (with_reducible exact Below.size (by assumption)) | (simp; done) | (simp; omega)) _ | refine Below.setCell ?_ (by first | omega | (with_reducible exact Below.size (by assumption)) | (simp; done) | (simp; omega)) _ | refine below_step (by assumption) (by first | omega | (with_reducible exact Below.size (by assumption)) | (simp; done) | (simp; omega)) ?_))) (HWI.out.later (by (repeat first | with_reducible assumption | with_reducible exact Below.refl _ _ | refine below_drewN ?_ _ | refine Below.drew ?_ | refine Below.alloc ?_ (by first | omega | (with_reducible exact Below.size (by assumption)) | (simp; done) | (simp; omega)) _ | refine Below.setCell ?_ (by first | omega | (with_reducible exact Below.size (by assumption)) | (simp; done) | (simp; omega)) _ | refine below_step (by assumption) (by first | omega | (with_reducible exact Below.size (by assumption)) | (simp; done) | (simp; omega)) ?_))) (HSI.out.later (by (repeat first | with_reducible assumption | with_reducible exact Below.refl _ _ | refine below_drewN ?_ _ | refine Below.drew ?_ | refine Below.alloc ?_ (by first | omega | (with_reducible exact Below.size (by assumption)) | (simp; done) | (simp; omega)) _ | refine Below.setCell ?_ (by first | omega | (with_reducible exact Below.size (by assumption)) | (simp; done) | (simp; omega)) _ | refine below_step (by assumption) (by first | omega | (with_reducible exact Below.size (by assumption)) | (simp; done) | (simp; omega)) ?_)))).mono ?_; rw [e0]; (rintro e w1 ⟨rfl, hb1⟩; obtain ⟨hc1, hf1⟩ := bcell hb1; have zs1 := hb1.size; (try simp at zs1); have n1_0 : w.heap.size < w1.heap.size := (by omega); have n1_1 : w.heap.size + 1 < w1.heap.size := (by omega)))
  have d0 := fun i => (hc1 w.heap.size i (by first | omega | (simp; done) | (simp; omega))).trans ((al2_0 rfl).2.1 i)
  have d1 := fun i => (hc1 (w.heap.size + 1) i (by first | omega | (simp; done) | (simp; omega))).trans ((al2_1 rfl).2.1 i)
  have hbw1 : Below w.heap.size w w1 := by (repeat first | with_reducible assumption | with_reducible exact Below.refl _ _ | refine below_drewN ?_ _ | refine Below.drew ?_ | refine Below.alloc ?_ (by first | omega | (with_reducible exact Below.size (by assumption)) | (simp; done) | (simp; omega)) _ | refine Below.setCell ?_ (by first | omega | (with_reducible exact Below.size (by assumption)) | (simp; done) | (simp; omega)) _ | refine below_step (by assumption) (by first | omega | (with_reducible exact Below.size (by assumption)) | (simp; done) | (simp; omega)) ?_)
  have z1 := hbw1.size
  clear hc1 hf1 hb1 e0
  go_loopw [5] (fun i (wr : World) => ∃ k : Nat, k ≤ np ∧ i = .int .i64 k ∧ Hid (∀ j, j < k → wi (chgN ls ws ss (j : Int) ns) (spAt pl j).lo (spAt pl j).hi = true) ∧ Below w1.heap.size w1 wr) (fun i _ => np - (intOf i).toNat)
  case atStart => exact ⟨0, by omega, rfl, fun j hj => absurd hj (by omega), Below.refl _ _⟩
  case round =>
    obtain ⟨k, hk, rfl, H, hb⟩ := hrel
    obtain ⟨hc, hf⟩ := bcell hb
    have zb := hb.size
    have m0 := Nat.lt_of_lt_of_le n1_0 zb
    have m1 := Nat.lt_of_lt_of_le n1_1 zb
    have hbw : Below w.heap.size w wr := hbw1.trans (hb.mono z1)
    by_cases hlt : k < np
    · have hB' : decide ((k : Int) < np) = true := by simp; omega
      obtain ⟨bp, op, rfl, hbp, x0, x1⟩ := (HPI.out.later hbw).get hlt
      cases e1 : wi (chgN ls ws ss (k : Int) ns) (spAt pl k).lo (spAt pl k).hi
      · have hA := Lib.hid (allN_no (p := fun p : Nat => wi (chgN ls ws ss (p : Int) ns) (spAt pl p).lo (spAt pl p).hi) hlt e1)
        go_wp2_with fail
        have hcq := fun p : Regrown => (bcell (below_regrown wr p.d p.os)).1
        refine wp_region_quiet_below (by kernel_rfl) (by kernel_rfl) ?_
        repeat (go_big_quiet_step (((first | (go_at_call 45; exact Calls.regrown_of ((withinR_c _ _ _ _).mono (by rintro e w' ⟨rfl, rfl⟩; exact ⟨rfl, Below.refl _ _⟩))) | (go_at_call 26; exact Calls.regrown_of (Change_c _ _ _ _ _ _ _ _ _ _ _ _ _ _ ls ws ss _ (by omega) hw hs (Nat.le_refl _) (Nat.le_refl _) (HLI.out.later (hbw.trans ((below_regrown _ _ _).mono hbw.size))) (HWI.out.later (hbw.trans ((below_regrown _ _ _).mono hbw.size))) (HSI.out.later (hbw.trans ((below_regrown _ _ _).mono hbw.size))) BW.out BS.out))))))
        refine wpQuiet_nil ?_
        intro w2 hq
        obtain ⟨pq, hq⟩ := hq
        have hb2 : Below wr.heap.size wr w2 := by rw [hq]; exact below_regrown _ _ _
        clear hq hcq pq
        obtain ⟨hc2, hf2⟩ := bcell hb2
        have z2 := hb2.size
        go_wp2
        go_ret
        exact ⟨ret_bool (by rw [HTR.out, hA.out]; rfl), by (repeat first | with_reducible assumption | with_reducible exact Below.refl _ _ | refine below_drewN ?_ _ | refine Below.drew ?_ | refine Below.alloc ?_ (by first | omega | (with_reducible exact Below.size (by assumption)) | (simp; done) | (simp; omega)) _ | refine Below.setCell ?_ (by first | omega | (with_reducible exact Below.size (by assumption)) | (simp; done) | (simp; omega)) _ | refine below_step (by assumption) (by first | omega | (with_reducible exact Below.size (by assumption)) | (simp; done) | (simp; omega)) ?_)⟩
      · go_wp2_with fail
        have hcq := fun p : Regrown => (bcell (below_regrown wr p.d p.os)).1
        refine wp_region_quiet_below (by kernel_rfl) (by kernel_rfl) ?_
        repeat (go_big_quiet_step (((first | (go_at_call 45; exact Calls.regrown_of ((withinR_c _ _ _ _).mono (by rintro e w' ⟨rfl, rfl⟩; exact ⟨rfl, Below.refl _ _⟩))) | (go_at_call 26; exact Calls.regrown_of (Change_c _ _ _ _ _ _ _ _ _ _ _ _ _ _ ls ws ss _ (by omega) hw hs (Nat.le_refl _) (Nat.le_refl _) (HLI.out.later (hbw.trans ((below_regrown _ _ _).mono hbw.size))) (HWI.out.later (hbw.trans ((below_regrown _ _ _).mono hbw.size))) (HSI.out.later (hbw.trans ((below_regrown _ _ _).mono hbw.size))) BW.out BS.out))))))
        refine wpQuiet_nil ?_
        intro w2 hq
        obtain ⟨pq, hq⟩ := hq
        have hb2 : Below wr.heap.size wr w2 := by rw [hq]; exact below_regrown _ _ _
        clear hq hcq pq
        obtain ⟨hc2, hf2⟩ := bcell hb2
        have z2 := hb2.size
        go_wp2
        go_roundw
        case rel => exact ⟨k + 1, by omega, by go_num, fun j hj => by
          rcases Nat.lt_succ_iff_lt_or_eq.1 hj with h | rfl
          · exact H.out j h
          · exact e1, by (repeat first | with_reducible assumption | with_reducible exact Below.refl _ _ | refine below_drewN ?_ _ | refine Below.drew ?_ | refine Below.alloc ?_ (by first | omega | (with_reducible exact Below.size (by assumption)) | (simp; done) | (simp; omega)) _ | refine Below.setCell ?_ (by first | omega | (with_reducible exact Below.size (by assumption)) | (simp; done) | (simp; omega)) _ | refine below_step (by assumption) (by first | omega | (with_reducible exact Below.size (by assumption)) | (simp; done) | (simp; omega)) ?_)⟩
        case measure => simp [intOf]; omega
    · obtain rfl : np = k := by omega
      have hA := Lib.hid (allN_iff.2 H.out)
      have hB' : decide (((np : Nat) : Int) < np) = false := by simp
      clear H
      go_wp2_with fail
      have hcq := fun p : Regrown => (bcell (below_regrown wr p.d p.os)).1
      refine wp_region_quiet_below (by kernel_rfl) (by kernel_rfl) ?_
      repeat (go_big_quiet_step (((go_at_call 22; exact Calls.regrown_of (Wrongs_c _ _ _ _ _ _ _ _ _ _ _ _ _ ls ws _ (by omega) hw (Nat.le_refl _) (HLI.out.later (hbw.trans ((below_regrown _ _ _).mono hbw.size))) (HWI.out.later (hbw.trans ((below_regrown _ _ _).mono hbw.size))))))))
      refine wpQuiet_nil ?_
      intro w2 hq
      obtain ⟨pq, hq⟩ := hq
      have hb2 : Below wr.heap.size wr w2 := by rw [hq]; exact below_regrown _ _ _
      clear hq hcq pq
      obtain ⟨hc2, hf2⟩ := bcell hb2
      have z2 := hb2.size
      go_wp2
      go_ret
      exact ⟨ret_bool (by rw [HTR.out, hA.out]; rfl), by (repeat first | with_reducible assumption | with_reducible exact Below.refl _ _ | refine below_drewN ?_ _ | refine Below.drew ?_ | refine Below.alloc ?_ (by first | omega | (with_reducible exact Below.size (by assumption)) | (simp; done) | (simp; omega)) _ | refine Below.setCell ?_ (by first | omega | (with_reducible exact Below.size (by assumption)) | (simp; done) | (simp; omega)) _ | refine below_step (by assumption) (by first | omega | (with_reducible exact Below.size (by assumption)) | (simp; done) | (simp; omega)) ?_)⟩

end Go.Proofs.Ytoehifincdflhaa
