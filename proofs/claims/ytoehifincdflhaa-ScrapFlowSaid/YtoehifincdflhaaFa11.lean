/- Far and ready of the statements (layer 11). -/
import Derived.Test.YtoehifincdflhaaCp11
namespace Go.Proofs.Ytoehifincdflhaa
open Go.RowKit
open Go.Sort (grow)
set_option linter.unusedVariables false

def farB (np nl : Nat) (pl : List Sp) (ls : List Ln) (wr : Int) : Bool := ckBk np nl pl ls wr && (decide (4 < (np : Int)) || decide (6 < (nl : Int)))

set_option maxRecDepth 100000 in
set_option maxHeartbeats 1600000 in
theorem FarBig_c (Ap Al : Option Addr) (np cp nl cl : Nat) (wrg : Int) (w : World) (h : 40 < np ∨ 40 < nl) (hp : np ≤ 9223372036854775807) (hl : nl ≤ 9223372036854775807) :
    Calls Try.prog 29 #[.agg #[.slice Ap np cp, .slice Al nl cl, .int .i64 wrg]] w
      fun e w' => e = .returned (.bool true) ∧ Below w.heap.size w w' := by
  by_cases h1 : (40 : Int) < np
  · go_enter Try.func29, Try.ntmps29
    go_wp2
    go_ret
    exact ⟨rfl, by (repeat first | with_reducible assumption | with_reducible exact Below.refl _ _ | (with_reducible refine Below.alloc ?_ ?side _; case side => (first | omega | (with_reducible exact Below.size (by assumption)) | (simp; done) | (simp; omega))) | (with_reducible refine Below.setCell ?_ ?side _; case side => (first | omega | (with_reducible exact Below.size (by assumption)) | (simp; done) | (simp; omega))) | with_reducible refine Below.drew ?_ | with_reducible refine below_drewN ?_ _ | (with_reducible refine below_step (by assumption) ?side ?_; case side => (first | omega | (with_reducible exact Below.size (by assumption)) | (simp; done) | (simp; omega))))⟩
  · have h2 : (40 : Int) < nl := by omega
    go_enter Try.func29, Try.ntmps29
    go_wp2
    go_ret
    exact ⟨rfl, by (repeat first | with_reducible assumption | with_reducible exact Below.refl _ _ | (with_reducible refine Below.alloc ?_ ?side _; case side => (first | omega | (with_reducible exact Below.size (by assumption)) | (simp; done) | (simp; omega))) | (with_reducible refine Below.setCell ?_ ?side _; case side => (first | omega | (with_reducible exact Below.size (by assumption)) | (simp; done) | (simp; omega))) | with_reducible refine Below.drew ?_ | with_reducible refine below_drewN ?_ _ | (with_reducible refine below_step (by assumption) ?side ?_; case side => (first | omega | (with_reducible exact Below.size (by assumption)) | (simp; done) | (simp; omega))))⟩

set_option maxRecDepth 100000 in
set_option maxHeartbeats 1600000 in
theorem Far_c (Ap Al : Option Addr) (np cp nl cl : Nat) (wrg : Int) (pl : List Sp) (ls : List Ln) (w : World) (hp : np ≤ 40) (hl : nl ≤ 40) (HP : SpsAt w Ap np pl) (HL : LnsAt w Al nl ls) :
    Calls Try.prog 29 #[.agg #[.slice Ap np cp, .slice Al nl cl, .int .i64 wrg]] w
      fun e w' => e = .returned (.bool (farB np nl pl ls wrg)) ∧ Below w.heap.size w w' := by
  have HPI := Lib.hid HP
  have HLI := Lib.hid HL
  clear HP HL
  have g1 : decide ((40 : Int) < np) = false := by simp; omega
  have g2 : decide ((40 : Int) < nl) = false := by simp; omega
  cases hck : ckBk np nl pl ls wrg
  · have e0 : erB (ckBk np nl pl ls wrg) = 110 := by rw [hck]; rfl
    have hr : farB np nl pl ls wrg = false := by simp [farB, hck]
    rw [hr]
    clear hr hck
    go_enter Try.func29, Try.ntmps29
    go_wp2_with (go_at_call 38; refine (refCheck_c Ap Al np cp nl cl wrg pl ls _ hp hl (HPI.out.later (by (repeat first | with_reducible assumption | with_reducible exact Below.refl _ _ | refine below_drewN ?_ _ | refine Below.drew ?_ | refine Below.alloc ?_ (by first | omega | (with_reducible exact Below.size (by assumption)) | (simp; done) | (simp; omega)) _ | refine Below.setCell ?_ (by first | omega | (with_reducible exact Below.size (by assumption)) | (simp; done) | (simp; omega)) _ | refine below_step (by assumption) (by first | omega | (with_reducible exact Below.size (by assumption)) | (simp; done) | (simp; omega)) ?_))) (HLI.out.later (by (repeat first | with_reducible assumption | with_reducible exact Below.refl _ _ | refine below_drewN ?_ _ | refine Below.drew ?_ | refine Below.alloc ?_ (by first | omega | (with_reducible exact Below.size (by assumption)) | (simp; done) | (simp; omega)) _ | refine Below.setCell ?_ (by first | omega | (with_reducible exact Below.size (by assumption)) | (simp; done) | (simp; omega)) _ | refine below_step (by assumption) (by first | omega | (with_reducible exact Below.size (by assumption)) | (simp; done) | (simp; omega)) ?_)))).mono ?_; rw [e0]; (rintro e w1 ⟨rfl, hb1⟩; obtain ⟨hc1, hf1⟩ := bcell hb1; have zs1 := hb1.size; (try simp at zs1); have n1_0 : w.heap.size < w1.heap.size := (by omega)))
    go_ret
    exact ⟨rfl, by (repeat first | with_reducible assumption | with_reducible exact Below.refl _ _ | (with_reducible refine Below.alloc ?_ ?side _; case side => (first | omega | (with_reducible exact Below.size (by assumption)) | (simp; done) | (simp; omega))) | (with_reducible refine Below.setCell ?_ ?side _; case side => (first | omega | (with_reducible exact Below.size (by assumption)) | (simp; done) | (simp; omega))) | with_reducible refine Below.drew ?_ | with_reducible refine below_drewN ?_ _ | (with_reducible refine below_step (by assumption) ?side ?_; case side => (first | omega | (with_reducible exact Below.size (by assumption)) | (simp; done) | (simp; omega))))⟩
  · have e0 : erB (ckBk np nl pl ls wrg) = 0 := by rw [hck]; rfl
    have hr : farB np nl pl ls wrg = (decide (4 < (np : Int)) || decide (6 < (nl : Int))) := by simp [farB, hck]
    rw [hr]
    clear hr hck
    cases e1 : decide (4 < (np : Int)) <;> cases e2 : decide (6 < (nl : Int))
    all_goals
      go_enter Try.func29, Try.ntmps29
      go_wp2_with (go_at_call 38; refine (refCheck_c Ap Al np cp nl cl wrg pl ls _ hp hl (HPI.out.later (by (repeat first | with_reducible assumption | with_reducible exact Below.refl _ _ | refine below_drewN ?_ _ | refine Below.drew ?_ | refine Below.alloc ?_ (by first | omega | (with_reducible exact Below.size (by assumption)) | (simp; done) | (simp; omega)) _ | refine Below.setCell ?_ (by first | omega | (with_reducible exact Below.size (by assumption)) | (simp; done) | (simp; omega)) _ | refine below_step (by assumption) (by first | omega | (with_reducible exact Below.size (by assumption)) | (simp; done) | (simp; omega)) ?_))) (HLI.out.later (by (repeat first | with_reducible assumption | with_reducible exact Below.refl _ _ | refine below_drewN ?_ _ | refine Below.drew ?_ | refine Below.alloc ?_ (by first | omega | (with_reducible exact Below.size (by assumption)) | (simp; done) | (simp; omega)) _ | refine Below.setCell ?_ (by first | omega | (with_reducible exact Below.size (by assumption)) | (simp; done) | (simp; omega)) _ | refine below_step (by assumption) (by first | omega | (with_reducible exact Below.size (by assumption)) | (simp; done) | (simp; omega)) ?_)))).mono ?_; rw [e0]; (rintro e w1 ⟨rfl, hb1⟩; obtain ⟨hc1, hf1⟩ := bcell hb1; have zs1 := hb1.size; (try simp at zs1); have n1_0 : w.heap.size < w1.heap.size := (by omega)))
      go_ret
      exact ⟨rfl, by (repeat first | with_reducible assumption | with_reducible exact Below.refl _ _ | (with_reducible refine Below.alloc ?_ ?side _; case side => (first | omega | (with_reducible exact Below.size (by assumption)) | (simp; done) | (simp; omega))) | (with_reducible refine Below.setCell ?_ ?side _; case side => (first | omega | (with_reducible exact Below.size (by assumption)) | (simp; done) | (simp; omega))) | with_reducible refine Below.drew ?_ | with_reducible refine below_drewN ?_ _ | (with_reducible refine below_step (by assumption) ?side ?_; case side => (first | omega | (with_reducible exact Below.size (by assumption)) | (simp; done) | (simp; omega))))⟩

def rdyB (np nl : Nat) (pl : List Sp) (ls : List Ln) (wr : Int) : Bool := !farB np nl pl ls wr && ckBk np nl pl ls wr
theorem rdyB_yes {np nl : Nat} {pl : List Sp} {ls : List Ln} {wr : Int} (h : rdyB np nl pl ls wr = true) : ckBk np nl pl ls wr = true ∧ np ≤ 4 ∧ nl ≤ 6 := by
  unfold rdyB farB at h
  cases e : ckBk np nl pl ls wr
  · simp [e] at h
  · simp [e] at h
    exact ⟨rfl, by omega, by omega⟩

set_option maxRecDepth 100000 in
set_option maxHeartbeats 1600000 in
theorem readyBig_c (Ap Al : Option Addr) (np cp nl cl : Nat) (wrg : Int) (w : World) (h : 40 < np ∨ 40 < nl) (hp : np ≤ 9223372036854775807) (hl : nl ≤ 9223372036854775807) :
    Calls Try.prog 11 #[.agg #[.slice Ap np cp, .slice Al nl cl, .int .i64 wrg]] w
      fun e w' => e = .returned (.bool false) ∧ Below w.heap.size w w' := by
  go_enter Try.func11, Try.ntmps11
  go_wp2_with (go_at_call 29; refine (FarBig_c Ap Al np cp nl cl wrg _ h hp hl).mono ?_; (rintro e w1 ⟨rfl, hb1⟩; obtain ⟨hc1, hf1⟩ := bcell hb1; have zs1 := hb1.size; (try simp at zs1); have n1_0 : w.heap.size < w1.heap.size := (by omega)))
  go_ret
  exact ⟨rfl, by (repeat first | with_reducible assumption | with_reducible exact Below.refl _ _ | (with_reducible refine Below.alloc ?_ ?side _; case side => (first | omega | (with_reducible exact Below.size (by assumption)) | (simp; done) | (simp; omega))) | (with_reducible refine Below.setCell ?_ ?side _; case side => (first | omega | (with_reducible exact Below.size (by assumption)) | (simp; done) | (simp; omega))) | with_reducible refine Below.drew ?_ | with_reducible refine below_drewN ?_ _ | (with_reducible refine below_step (by assumption) ?side ?_; case side => (first | omega | (with_reducible exact Below.size (by assumption)) | (simp; done) | (simp; omega))))⟩

set_option maxRecDepth 100000 in
set_option maxHeartbeats 1600000 in
theorem ready_c (Ap Al : Option Addr) (np cp nl cl : Nat) (wrg : Int) (pl : List Sp) (ls : List Ln) (w : World) (hp : np ≤ 40) (hl : nl ≤ 40) (HP : SpsAt w Ap np pl) (HL : LnsAt w Al nl ls) :
    Calls Try.prog 11 #[.agg #[.slice Ap np cp, .slice Al nl cl, .int .i64 wrg]] w
      fun e w' => e = .returned (.bool (rdyB np nl pl ls wrg)) ∧ Below w.heap.size w w' := by
  have HPI := Lib.hid HP
  have HLI := Lib.hid HL
  clear HP HL
  cases hf : farB np nl pl ls wrg <;> cases hck : ckBk np nl pl ls wrg
  all_goals
    have hr : rdyB np nl pl ls wrg = (!farB np nl pl ls wrg && ckBk np nl pl ls wrg) := rfl
    rw [hf, hck] at hr
    simp only [Bool.not_false, Bool.not_true, Bool.and_true, Bool.and_false] at hr
    rw [hr]
    have e0 : erB (ckBk np nl pl ls wrg) = erB (ckBk np nl pl ls wrg) := rfl
    conv at e0 => rhs; rw [hck]
    simp only [erB, cond_true, cond_false] at e0
    replace e0 : erB (ckBk np nl pl ls wrg) = _ := e0
    clear hr hck
    go_enter Try.func11, Try.ntmps11
    go_wp2_with (first | (go_at_call 29; refine (Far_c Ap Al np cp nl cl wrg pl ls _ hp hl (HPI.out.later (by (repeat first | with_reducible assumption | with_reducible exact Below.refl _ _ | refine below_drewN ?_ _ | refine Below.drew ?_ | refine Below.alloc ?_ (by first | omega | (with_reducible exact Below.size (by assumption)) | (simp; done) | (simp; omega)) _ | refine Below.setCell ?_ (by first | omega | (with_reducible exact Below.size (by assumption)) | (simp; done) | (simp; omega)) _ | refine below_step (by assumption) (by first | omega | (with_reducible exact Below.size (by assumption)) | (simp; done) | (simp; omega)) ?_))) (HLI.out.later (by (repeat first | with_reducible assumption | with_reducible exact Below.refl _ _ | refine below_drewN ?_ _ | refine Below.drew ?_ | refine Below.alloc ?_ (by first | omega | (with_reducible exact Below.size (by assumption)) | (simp; done) | (simp; omega)) _ | refine Below.setCell ?_ (by first | omega | (with_reducible exact Below.size (by assumption)) | (simp; done) | (simp; omega)) _ | refine below_step (by assumption) (by first | omega | (with_reducible exact Below.size (by assumption)) | (simp; done) | (simp; omega)) ?_)))).mono ?_; rw [hf]; (rintro e w1 ⟨rfl, hb1⟩; obtain ⟨hc1, hf1⟩ := bcell hb1; have zs1 := hb1.size; (try simp at zs1); have n1_0 : w.heap.size < w1.heap.size := (by omega))) | (go_at_call 38; refine (refCheck_c Ap Al np cp nl cl wrg pl ls _ hp hl (HPI.out.later (by (repeat first | with_reducible assumption | with_reducible exact Below.refl _ _ | refine below_drewN ?_ _ | refine Below.drew ?_ | refine Below.alloc ?_ (by first | omega | (with_reducible exact Below.size (by assumption)) | (simp; done) | (simp; omega)) _ | refine Below.setCell ?_ (by first | omega | (with_reducible exact Below.size (by assumption)) | (simp; done) | (simp; omega)) _ | refine below_step (by assumption) (by first | omega | (with_reducible exact Below.size (by assumption)) | (simp; done) | (simp; omega)) ?_))) (HLI.out.later (by (repeat first | with_reducible assumption | with_reducible exact Below.refl _ _ | refine below_drewN ?_ _ | refine Below.drew ?_ | refine Below.alloc ?_ (by first | omega | (with_reducible exact Below.size (by assumption)) | (simp; done) | (simp; omega)) _ | refine Below.setCell ?_ (by first | omega | (with_reducible exact Below.size (by assumption)) | (simp; done) | (simp; omega)) _ | refine below_step (by assumption) (by first | omega | (with_reducible exact Below.size (by assumption)) | (simp; done) | (simp; omega)) ?_)))).mono ?_; (first | rw [e0] | skip); (rintro e w2 ⟨rfl, hb2⟩; obtain ⟨hc2, hf2⟩ := bcell hb2; have zs2 := hb2.size; (try simp at zs2))))
    go_ret
    exact ⟨rfl, by (repeat first | with_reducible assumption | with_reducible exact Below.refl _ _ | (with_reducible refine Below.alloc ?_ ?side _; case side => (first | omega | (with_reducible exact Below.size (by assumption)) | (simp; done) | (simp; omega))) | (with_reducible refine Below.setCell ?_ ?side _; case side => (first | omega | (with_reducible exact Below.size (by assumption)) | (simp; done) | (simp; omega))) | with_reducible refine Below.drew ?_ | with_reducible refine below_drewN ?_ _ | (with_reducible refine below_step (by assumption) ?side ?_; case side => (first | omega | (with_reducible exact Below.size (by assumption)) | (simp; done) | (simp; omega))))⟩

end Go.Proofs.Ytoehifincdflhaa
