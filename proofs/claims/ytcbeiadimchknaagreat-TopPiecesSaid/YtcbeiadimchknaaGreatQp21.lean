/- The small functions of layer 7: within, prices, closures over slices. -/
import Derived.Test.YtcbeiadimchknaaGreatChecked
import Derived.Test.YtcbeiadimchknaaGreatQp20
import Derived.Shelf.Abstract
import Derived.Laws.EntriesVeiled
namespace Go.Proofs.YtcbeiadimchknaaGreat
open Go.RowKit
open Go.Sort (grow)
set_option linter.unusedVariables false
set_option linter.unusedSimpArgs false

def wi_q7 (n a b : Int) : Bool := decide (a ≤ n) && decide (n ≤ b)
theorem wi_true_q7 {x a b : Int} : wi_q7 x a b = true ↔ a ≤ x ∧ x ≤ b := by simp [wi_q7]
set_option maxHeartbeats 400000 in
theorem within_c (n a b : Int) (w : World) :
    Calls Tryz.prog 57 #[.int .i64 n, .int .i64 a, .int .i64 b] w fun e w' => e = .returned (.bool (wi_q7 n a b)) ∧ w = w' := by
  go_enter Tryz.func57, Tryz.ntmps57
  go_wp2
  all_goals
    go_ret
    exact ⟨ret_bool (by simp [wi_q7, *] <;> omega), rfl⟩

set_option maxHeartbeats 400000 in
theorem Within1_c (n a b : Int) (w : World) :
    Calls Tryz.prog 50 #[.int .i64 n, .int .i64 a, .int .i64 b] w fun e w' => e = .returned (.bool (wi_q7 n a b)) ∧ w = w' := by
  go_enter Tryz.func50, Tryz.ntmps50
  go_wp2
  all_goals
    go_ret
    exact ⟨ret_bool (by simp [wi_q7, *] <;> omega), rfl⟩

set_option maxHeartbeats 400000 in
theorem withinR_c (n a b : Int) (w : World) :
    Calls Tryz.prog 20 #[.int .i64 n, .int .i64 a, .int .i64 b] w fun e w' => e = .returned (.bool (wi_q7 n a b)) ∧ w = w' := by
  go_enter Tryz.func20, Tryz.ntmps20
  go_wp2_with (go_at_call 50; refine (Within1_c _ _ _ _).mono ?_; rintro e w' ⟨rfl, rfl⟩)
  go_ret
  exact ⟨rfl, rfl⟩

def isKn (e : Int) : Bool := (e == 0) || (e == 3)
set_option maxHeartbeats 400000 in
theorem indexFuncSp_c (A : Option Addr) (n c g : Nat) (fst cap : Array Value) (xs : List Sp) (p : Nat → Bool) (w : World) (hn : n ≤ 40) (HX : SpsAt w A n xs)
    (HE : ∀ args w, (callFunc g args).run Tryz.prog w = .ok (.enter g args) w)
    (HF : ∀ k, k < n → ∀ w', Below w.heap.size w w' → Calls Tryz.prog g (fst.push (.agg #[.int .i64 (spAt xs k).lo, .int .i64 (spAt xs k).hi]) ++ cap) w' fun e w'' => e = .returned (.bool (p k)) ∧ Below w'.heap.size w' w'') :
    Calls Tryz.prog 80 #[.slice A n c, .func (.func g) fst cap] w fun e w' => e = .returned (.int .i64 (idxN n p)) ∧ Below w.heap.size w w' := by
  have HFI := Lib.hid HF
  have HXI := Lib.hid HX
  clear HF HX
  go_enter Tryz.func80, Tryz.ntmps80
  go_wp2
  go_loopw [8] (fun i (wr : World) => ∃ k : Nat, k ≤ n ∧ i = .int .i64 k ∧ Hid (∀ j, j < k → p j = false) ∧ Below w.heap.size w wr) (fun i _ => n - (intOf i).toNat)
  case atStart => exact ⟨0, by omega, rfl, fun j hj => absurd hj (by omega), Below.refl _ _⟩
  case round =>
    obtain ⟨k, hk, rfl, H1, hb⟩ := hrel
    have zb := hb.size
    by_cases hlt : k < n
    · obtain ⟨bp, op, rfl, hbp, x0, x1⟩ := (HXI.out.later hb).get hlt
      go_wp2_with fail
      refine (HFI.out k hlt _ hb).mono ?_
      (rintro e w1 ⟨rfl, hb1⟩; obtain ⟨hc1, hf1⟩ := bcell hb1; have zs1 := hb1.size; (try simp at zs1))
      go_wp2
      all_goals first
        | (go_roundw
           case rel => exact ⟨k + 1, by omega, by go_num, fun j hj => by
             rcases Nat.lt_succ_iff_lt_or_eq.1 hj with h | rfl
             · exact H1.out j h
             · rename_i h; simpa using h, by (repeat first | with_reducible assumption | with_reducible exact Below.refl _ _ | refine below_drewN ?_ _ | refine Below.drew ?_ | refine Below.alloc ?_ (by first | omega | (with_reducible exact Below.size (by assumption)) | (simp; done) | (simp; omega)) _ | refine Below.setCell ?_ (by first | omega | (with_reducible exact Below.size (by assumption)) | (simp; done) | (simp; omega)) _ | refine below_step (by assumption) (by first | omega | (with_reducible exact Below.size (by assumption)) | (simp; done) | (simp; omega)) ?_)⟩
           case measure => simp [intOf]; omega)
        | (go_ret
           rename_i h
           exact ⟨ret_int (idxN_some hlt (by simpa using h) H1.out).symm, by (repeat first | with_reducible assumption | with_reducible exact Below.refl _ _ | refine below_drewN ?_ _ | refine Below.drew ?_ | refine Below.alloc ?_ (by first | omega | (with_reducible exact Below.size (by assumption)) | (simp; done) | (simp; omega)) _ | refine Below.setCell ?_ (by first | omega | (with_reducible exact Below.size (by assumption)) | (simp; done) | (simp; omega)) _ | refine below_step (by assumption) (by first | omega | (with_reducible exact Below.size (by assumption)) | (simp; done) | (simp; omega)) ?_)⟩)
    · obtain rfl : n = k := by omega
      go_wp2
      go_ret
      exact ⟨ret_int (idxN_none H1.out).symm, by (repeat first | with_reducible assumption | with_reducible exact Below.refl _ _ | refine below_drewN ?_ _ | refine Below.drew ?_ | refine Below.alloc ?_ (by first | omega | (with_reducible exact Below.size (by assumption)) | (simp; done) | (simp; omega)) _ | refine Below.setCell ?_ (by first | omega | (with_reducible exact Below.size (by assumption)) | (simp; done) | (simp; omega)) _ | refine below_step (by assumption) (by first | omega | (with_reducible exact Below.size (by assumption)) | (simp; done) | (simp; omega)) ?_)⟩

set_option maxHeartbeats 400000 in
theorem containsFuncSp_c (A : Option Addr) (n c g : Nat) (fst cap : Array Value) (xs : List Sp) (p : Nat → Bool) (w : World) (hn : n ≤ 40) (HX : SpsAt w A n xs)
    (HE : ∀ args w, (callFunc g args).run Tryz.prog w = .ok (.enter g args) w)
    (HF : ∀ k, k < n → ∀ w', Below w.heap.size w w' → Calls Tryz.prog g (fst.push (.agg #[.int .i64 (spAt xs k).lo, .int .i64 (spAt xs k).hi]) ++ cap) w' fun e w'' => e = .returned (.bool (p k)) ∧ Below w'.heap.size w' w'') :
    Calls Tryz.prog 62 #[.slice A n c, .func (.func g) fst cap] w fun e w' => e = .returned (.bool (anyN n p)) ∧ Below w.heap.size w w' := by
  have HC := Lib.hid (indexFuncSp_c A n c g fst cap xs p w hn HX HE HF)
  clear HF HX
  go_enter Tryz.func62, Tryz.ntmps62
  go_wp2_with fail
  refine HC.out.mono ?_
  (rintro e w1 ⟨rfl, hb1⟩; obtain ⟨hc1, hf1⟩ := bcell hb1; have zs1 := hb1.size; (try simp at zs1))
  go_wp2
  go_ret
  exact ⟨ret_bool idxN_ge, by (repeat first | with_reducible assumption | with_reducible exact Below.refl _ _ | refine below_drewN ?_ _ | refine Below.drew ?_ | refine Below.alloc ?_ (by first | omega | (with_reducible exact Below.size (by assumption)) | (simp; done) | (simp; omega)) _ | refine Below.setCell ?_ (by first | omega | (with_reducible exact Below.size (by assumption)) | (simp; done) | (simp; omega)) _ | refine below_step (by assumption) (by first | omega | (with_reducible exact Below.size (by assumption)) | (simp; done) | (simp; omega)) ?_)⟩
set_option maxHeartbeats 400000 in
theorem indexFuncInt_c (A : Option Addr) (n c g : Nat) (fst cap : Array Value) (xs : List Int) (p : Nat → Bool) (w : World) (hn : n ≤ 40) (HX : IntsAt w A n xs)
    (HE : ∀ args w, (callFunc g args).run Tryz.prog w = .ok (.enter g args) w)
    (HF : ∀ k, k < n → ∀ w', Below w.heap.size w w' → Calls Tryz.prog g (fst.push (.int .i64 (iAt xs k)) ++ cap) w' fun e w'' => e = .returned (.bool (p k)) ∧ Below w'.heap.size w' w'') :
    Calls Tryz.prog 64 #[.slice A n c, .func (.func g) fst cap] w fun e w' => e = .returned (.int .i64 (idxN n p)) ∧ Below w.heap.size w w' := by
  have HFI := Lib.hid HF
  have HXI := Lib.hid HX
  clear HF HX
  go_enter Tryz.func64, Tryz.ntmps64
  go_wp2
  go_loopw [8] (fun i (wr : World) => ∃ k : Nat, k ≤ n ∧ i = .int .i64 k ∧ Hid (∀ j, j < k → p j = false) ∧ Below w.heap.size w wr) (fun i _ => n - (intOf i).toNat)
  case atStart => exact ⟨0, by omega, rfl, fun j hj => absurd hj (by omega), Below.refl _ _⟩
  case round =>
    obtain ⟨k, hk, rfl, H1, hb⟩ := hrel
    have zb := hb.size
    by_cases hlt : k < n
    · obtain ⟨bp, op, rfl, hbp, x0⟩ := (HXI.out.later hb).get hlt
      go_wp2_with fail
      refine (HFI.out k hlt _ hb).mono ?_
      (rintro e w1 ⟨rfl, hb1⟩; obtain ⟨hc1, hf1⟩ := bcell hb1; have zs1 := hb1.size; (try simp at zs1))
      go_wp2
      all_goals first
        | (go_roundw
           case rel => exact ⟨k + 1, by omega, by go_num, fun j hj => by
             rcases Nat.lt_succ_iff_lt_or_eq.1 hj with h | rfl
             · exact H1.out j h
             · rename_i h; simpa using h, by (repeat first | with_reducible assumption | with_reducible exact Below.refl _ _ | refine below_drewN ?_ _ | refine Below.drew ?_ | refine Below.alloc ?_ (by first | omega | (with_reducible exact Below.size (by assumption)) | (simp; done) | (simp; omega)) _ | refine Below.setCell ?_ (by first | omega | (with_reducible exact Below.size (by assumption)) | (simp; done) | (simp; omega)) _ | refine below_step (by assumption) (by first | omega | (with_reducible exact Below.size (by assumption)) | (simp; done) | (simp; omega)) ?_)⟩
           case measure => simp [intOf]; omega)
        | (go_ret
           rename_i h
           exact ⟨ret_int (idxN_some hlt (by simpa using h) H1.out).symm, by (repeat first | with_reducible assumption | with_reducible exact Below.refl _ _ | refine below_drewN ?_ _ | refine Below.drew ?_ | refine Below.alloc ?_ (by first | omega | (with_reducible exact Below.size (by assumption)) | (simp; done) | (simp; omega)) _ | refine Below.setCell ?_ (by first | omega | (with_reducible exact Below.size (by assumption)) | (simp; done) | (simp; omega)) _ | refine below_step (by assumption) (by first | omega | (with_reducible exact Below.size (by assumption)) | (simp; done) | (simp; omega)) ?_)⟩)
    · obtain rfl : n = k := by omega
      go_wp2
      go_ret
      exact ⟨ret_int (idxN_none H1.out).symm, by (repeat first | with_reducible assumption | with_reducible exact Below.refl _ _ | refine below_drewN ?_ _ | refine Below.drew ?_ | refine Below.alloc ?_ (by first | omega | (with_reducible exact Below.size (by assumption)) | (simp; done) | (simp; omega)) _ | refine Below.setCell ?_ (by first | omega | (with_reducible exact Below.size (by assumption)) | (simp; done) | (simp; omega)) _ | refine below_step (by assumption) (by first | omega | (with_reducible exact Below.size (by assumption)) | (simp; done) | (simp; omega)) ?_)⟩

set_option maxHeartbeats 400000 in
theorem containsFuncInt_c (A : Option Addr) (n c g : Nat) (fst cap : Array Value) (xs : List Int) (p : Nat → Bool) (w : World) (hn : n ≤ 40) (HX : IntsAt w A n xs)
    (HE : ∀ args w, (callFunc g args).run Tryz.prog w = .ok (.enter g args) w)
    (HF : ∀ k, k < n → ∀ w', Below w.heap.size w w' → Calls Tryz.prog g (fst.push (.int .i64 (iAt xs k)) ++ cap) w' fun e w'' => e = .returned (.bool (p k)) ∧ Below w'.heap.size w' w'') :
    Calls Tryz.prog 33 #[.slice A n c, .func (.func g) fst cap] w fun e w' => e = .returned (.bool (anyN n p)) ∧ Below w.heap.size w w' := by
  have HC := Lib.hid (indexFuncInt_c A n c g fst cap xs p w hn HX HE HF)
  clear HF HX
  go_enter Tryz.func33, Tryz.ntmps33
  go_wp2_with fail
  refine HC.out.mono ?_
  (rintro e w1 ⟨rfl, hb1⟩; obtain ⟨hc1, hf1⟩ := bcell hb1; have zs1 := hb1.size; (try simp at zs1))
  go_wp2
  go_ret
  exact ⟨ret_bool idxN_ge, by (repeat first | with_reducible assumption | with_reducible exact Below.refl _ _ | refine below_drewN ?_ _ | refine Below.drew ?_ | refine Below.alloc ?_ (by first | omega | (with_reducible exact Below.size (by assumption)) | (simp; done) | (simp; omega)) _ | refine Below.setCell ?_ (by first | omega | (with_reducible exact Below.size (by assumption)) | (simp; done) | (simp; omega)) _ | refine below_step (by assumption) (by first | omega | (with_reducible exact Below.size (by assumption)) | (simp; done) | (simp; omega)) ?_)⟩

end Go.Proofs.YtcbeiadimchknaaGreat
