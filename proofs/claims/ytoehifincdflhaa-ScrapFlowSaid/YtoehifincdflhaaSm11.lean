/- The small functions of layer 11 that read no slice. -/
import Derived.Test.YtoehifincdflhaaChecked
import Derived.Test.YtoehifincdflhaaD11
namespace Go.Proofs.Ytoehifincdflhaa
open Go.RowKit
open Go.Sort (grow)
set_option linter.unusedVariables false

def wi (n a b : Int) : Bool := decide (a ≤ n) && decide (n ≤ b)

set_option maxHeartbeats 400000 in
theorem within_c (n a b : Int) (w : World) :
    Calls Try.prog 61 #[.int .i64 n, .int .i64 a, .int .i64 b] w fun e w' => e = .returned (.bool (wi n a b)) ∧ w = w' := by
  go_enter Try.func61, Try.ntmps61
  go_wp2
  all_goals
    go_ret
    exact ⟨ret_bool (by simp [wi, *] <;> omega), rfl⟩

set_option maxHeartbeats 400000 in
theorem Within1_c (n a b : Int) (w : World) :
    Calls Try.prog 71 #[.int .i64 n, .int .i64 a, .int .i64 b] w fun e w' => e = .returned (.bool (wi n a b)) ∧ w = w' := by
  go_enter Try.func71, Try.ntmps71
  go_wp2
  all_goals
    go_ret
    exact ⟨ret_bool (by simp [wi, *] <;> omega), rfl⟩

set_option maxHeartbeats 400000 in
theorem withinR_c (n a b : Int) (w : World) :
    Calls Try.prog 45 #[.int .i64 n, .int .i64 a, .int .i64 b] w fun e w' => e = .returned (.bool (wi n a b)) ∧ w = w' := by
  go_enter Try.func45, Try.ntmps45
  go_wp2_with (go_at_call 71; refine (Within1_c _ _ _ _).mono ?_; rintro e w' ⟨rfl, rfl⟩)
  go_ret
  exact ⟨rfl, rfl⟩

/-- the numbers of n things: 0 to n - 1 -/
def isNo (i : Int) (n : Nat) : Bool := wi i 0 (n - 1)

set_option maxHeartbeats 400000 in
theorem isLine_c (Ap Al : Option Addr) (np cp nl cl : Nat) (wr i : Int) (w : World) (h : nl ≤ 40) :
    Calls Try.prog 49 #[.agg #[.slice Ap np cp, .slice Al nl cl, .int .i64 wr], .int .i64 i] w fun e w' => e = .returned (.bool (isNo i nl)) ∧ Below w.heap.size w w' := by
  go_enter Try.func49, Try.ntmps49
  go_wp2_with (go_at_call 61; refine (within_c _ _ _ _).mono ?_; rintro e w' ⟨rfl, rfl⟩)
  go_ret
  exact ⟨rfl, by (repeat first | with_reducible assumption | with_reducible exact Below.refl _ _ | refine below_drewN ?_ _ | refine Below.drew ?_ | refine Below.alloc ?_ (by first | omega | (with_reducible exact Below.size (by assumption)) | (simp; done) | (simp; omega)) _ | refine Below.setCell ?_ (by first | omega | (with_reducible exact Below.size (by assumption)) | (simp; done) | (simp; omega)) _ | refine below_step (by assumption) (by first | omega | (with_reducible exact Below.size (by assumption)) | (simp; done) | (simp; omega)) ?_)⟩

set_option maxHeartbeats 400000 in
theorem isPlace_c (Ap Al : Option Addr) (np cp nl cl : Nat) (wr i : Int) (w : World) (h : np ≤ 40) :
    Calls Try.prog 55 #[.agg #[.slice Ap np cp, .slice Al nl cl, .int .i64 wr], .int .i64 i] w fun e w' => e = .returned (.bool (isNo i np)) ∧ Below w.heap.size w w' := by
  go_enter Try.func55, Try.ntmps55
  go_wp2_with (go_at_call 61; refine (within_c _ _ _ _).mono ?_; rintro e w' ⟨rfl, rfl⟩)
  go_ret
  exact ⟨rfl, by (repeat first | with_reducible assumption | with_reducible exact Below.refl _ _ | refine below_drewN ?_ _ | refine Below.drew ?_ | refine Below.alloc ?_ (by first | omega | (with_reducible exact Below.size (by assumption)) | (simp; done) | (simp; omega)) _ | refine Below.setCell ?_ (by first | omega | (with_reducible exact Below.size (by assumption)) | (simp; done) | (simp; omega)) _ | refine below_step (by assumption) (by first | omega | (with_reducible exact Below.size (by assumption)) | (simp; done) | (simp; omega)) ?_)⟩

set_option maxHeartbeats 400000 in
theorem IsLine_c (Ap Al : Option Addr) (np cp nl cl : Nat) (wr i : Int) (w : World) (h : nl ≤ 40) :
    Calls Try.prog 12 #[.agg #[.slice Ap np cp, .slice Al nl cl, .int .i64 wr], .int .i64 i] w fun e w' => e = .returned (.bool (isNo i nl)) ∧ Below w.heap.size w w' := by
  go_enter Try.func12, Try.ntmps12
  go_wp2_with (go_at_call 45; refine (withinR_c _ _ _ _).mono ?_; rintro e w' ⟨rfl, rfl⟩)
  go_ret
  exact ⟨rfl, by (repeat first | with_reducible assumption | with_reducible exact Below.refl _ _ | refine below_drewN ?_ _ | refine Below.drew ?_ | refine Below.alloc ?_ (by first | omega | (with_reducible exact Below.size (by assumption)) | (simp; done) | (simp; omega)) _ | refine Below.setCell ?_ (by first | omega | (with_reducible exact Below.size (by assumption)) | (simp; done) | (simp; omega)) _ | refine below_step (by assumption) (by first | omega | (with_reducible exact Below.size (by assumption)) | (simp; done) | (simp; omega)) ?_)⟩

set_option maxHeartbeats 400000 in
theorem IsPlace_c (Ap Al : Option Addr) (np cp nl cl : Nat) (wr i : Int) (w : World) (h : np ≤ 40) :
    Calls Try.prog 27 #[.agg #[.slice Ap np cp, .slice Al nl cl, .int .i64 wr], .int .i64 i] w fun e w' => e = .returned (.bool (isNo i np)) ∧ Below w.heap.size w w' := by
  go_enter Try.func27, Try.ntmps27
  go_wp2_with (go_at_call 45; refine (withinR_c _ _ _ _).mono ?_; rintro e w' ⟨rfl, rfl⟩)
  go_ret
  exact ⟨rfl, by (repeat first | with_reducible assumption | with_reducible exact Below.refl _ _ | refine below_drewN ?_ _ | refine Below.drew ?_ | refine Below.alloc ?_ (by first | omega | (with_reducible exact Below.size (by assumption)) | (simp; done) | (simp; omega)) _ | refine Below.setCell ?_ (by first | omega | (with_reducible exact Below.size (by assumption)) | (simp; done) | (simp; omega)) _ | refine below_step (by assumption) (by first | omega | (with_reducible exact Below.size (by assumption)) | (simp; done) | (simp; omega)) ?_)⟩

def isKn (e : Int) : Bool := (e == 0) || (e == 3)

set_option maxHeartbeats 400000 in
theorem isKnown_c (n : Int) (w : World) :
    Calls Try.prog 16 #[.int .i64 n] w fun e w' => e = .returned (.bool (isKn n)) ∧ w = w' := by
  go_enter Try.func16, Try.ntmps16
  go_wp2
  all_goals
    go_ret
    exact ⟨ret_bool (by simp_all [isKn]), rfl⟩

set_option maxHeartbeats 400000 in
theorem holds_c (a b n : Int) (w : World) :
    Calls Try.prog 24 #[.agg #[.int .i64 a, .int .i64 b], .int .i64 n] w fun e w' => e = .returned (.bool (wi n a b)) ∧ Below w.heap.size w w' := by
  go_enter Try.func24, Try.ntmps24
  go_wp2
  all_goals
    go_ret
    exact ⟨ret_bool (by simp [wi, *] <;> omega), by (repeat first | with_reducible assumption | with_reducible exact Below.refl _ _ | refine below_drewN ?_ _ | refine Below.drew ?_ | refine Below.alloc ?_ (by first | omega | (with_reducible exact Below.size (by assumption)) | (simp; done) | (simp; omega)) _ | refine Below.setCell ?_ (by first | omega | (with_reducible exact Below.size (by assumption)) | (simp; done) | (simp; omega)) _ | refine below_step (by assumption) (by first | omega | (with_reducible exact Below.size (by assumption)) | (simp; done) | (simp; omega)) ?_)⟩

def insd (a b : Sp) : Bool := decide (b.lo ≤ a.lo) && (decide (a.lo ≤ a.hi) && decide (a.hi ≤ b.hi))

set_option maxHeartbeats 400000 in
theorem inside_c (a b c d : Int) (w : World) :
    Calls Try.prog 28 #[.agg #[.int .i64 a, .int .i64 b], .agg #[.int .i64 c, .int .i64 d]] w fun e w' => e = .returned (.bool (insd ⟨a, b⟩ ⟨c, d⟩)) ∧ Below w.heap.size w w' := by
  go_enter Try.func28, Try.ntmps28
  go_wp2
  all_goals
    go_ret
    exact ⟨ret_bool (by simp [insd, *] <;> omega), by (repeat first | with_reducible assumption | with_reducible exact Below.refl _ _ | refine below_drewN ?_ _ | refine Below.drew ?_ | refine Below.alloc ?_ (by first | omega | (with_reducible exact Below.size (by assumption)) | (simp; done) | (simp; omega)) _ | refine Below.setCell ?_ (by first | omega | (with_reducible exact Below.size (by assumption)) | (simp; done) | (simp; omega)) _ | refine below_step (by assumption) (by first | omega | (with_reducible exact Below.size (by assumption)) | (simp; done) | (simp; omega)) ?_)⟩

def nodeZ (n : Int) : Int := if n < 0 then 5 else n

set_option maxHeartbeats 400000 in
theorem node_c (n : Int) (w : World) :
    Calls Try.prog 85 #[.int .i64 n] w fun e w' => e = .returned (.int .i64 (nodeZ n)) ∧ w = w' := by
  go_enter Try.func85, Try.ntmps85
  go_wp2
  all_goals
    go_ret
    exact ⟨ret_int (by unfold nodeZ; split <;> omega), rfl⟩

set_option maxHeartbeats 400000 in
theorem farPlan_c (Aw As : Option Addr) (nw cw ns cs : Nat) (w : World) :
    Calls Try.prog 18 #[.agg #[.slice Aw nw cw, .slice As ns cs]] w fun e w' => e = .returned (.bool (decide (40 < nw) || decide (40 < ns))) ∧ Below w.heap.size w w' := by
  go_enter Try.func18, Try.ntmps18
  go_wp2
  all_goals
    go_ret
    exact ⟨ret_bool (by rw [Bool.eq_iff_iff]; simp; omega), by (repeat first | with_reducible assumption | with_reducible exact Below.refl _ _ | refine below_drewN ?_ _ | refine Below.drew ?_ | refine Below.alloc ?_ (by first | omega | (with_reducible exact Below.size (by assumption)) | (simp; done) | (simp; omega)) _ | refine Below.setCell ?_ (by first | omega | (with_reducible exact Below.size (by assumption)) | (simp; done) | (simp; omega)) _ | refine below_step (by assumption) (by first | omega | (with_reducible exact Below.size (by assumption)) | (simp; done) | (simp; omega)) ?_)⟩

end Go.Proofs.Ytoehifincdflhaa
