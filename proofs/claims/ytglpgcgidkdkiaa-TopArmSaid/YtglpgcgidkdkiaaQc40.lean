/- The chapter's examples reckoned (layer 4). -/
import Derived.Test.YtglpgcgidkdkiaaQc39
import Derived.Shelf.Abstract
import Derived.Laws.EntriesVeiled
import Derived.Handy
import Derived.Deep.DrawnRows
import Derived.Deep.DeepCutAuto
namespace Go.Proofs.Ytglpgcgidkdkiaa
open Go.RowKit
open Go.Sort (grow)
set_option linter.unusedVariables false
set_option linter.unusedSimpArgs false

def exP : P4 := ⟨12, 9900, 10200, 0, [⟨1000, 1, 12⟩, ⟨500, 0, 20⟩], [⟨1, 0, 10, 0, 2, 0, 0⟩, ⟨2, 0, 10, 30, 2, 0, 0⟩]⟩
def exQ : P4 := ⟨12, 9900, 10200, 0, [⟨1000, 1, 12⟩, ⟨500, 0, 20⟩], [⟨1, 0, 10, 0, 2, 0, 0⟩, ⟨2, 0, 10, 30, 2, 0, 0⟩, ⟨1, 1, 20, 0, 1, 20, 20⟩]⟩
set_option maxRecDepth 100000
theorem exP_len : (tr4 exP).length ≤ 90000 := by decide +kernel
theorem exP_op : op4 exP true = 0 := by decide +kernel
theorem exP_many : mn4 (ol4 exP true) (ol4 exP true).length = 50 := by decide +kernel
theorem exP_bev : bev4 exP = 4 := by decide +kernel
theorem exP_bee : bee4 exP = 0 := by decide +kernel
theorem exQ_len : (tr4 exQ).length ≤ 90000 := by decide +kernel
theorem exQ_op : op4 exQ true = 0 := by decide +kernel
theorem exQ_st : (st4 exQ).lo = 26 ∧ (st4 exQ).hi = 31 := by decide +kernel
theorem exQ_lg : lgs4 exQ 1 = [10001, 10002] := by decide +kernel
theorem exQ_w1 : op4 exQ (when4 1) = 0 := exQ_op

set_option maxHeartbeats 400000 in
theorem Within24_c (n a b : Int) (w : World) :
    Calls Try.prog 50 #[.int .i64 n, .int .i64 a, .int .i64 b] w fun e w' => e = .returned (.bool (wn n a b)) ∧ w = w' := by
  go_enter Try.func50, Try.ntmps50
  go_wp2
  all_goals
    go_ret
    exact ⟨ret_bool (by simp [wn, *] <;> omega), rfl⟩
set_option maxHeartbeats 400000 in
theorem refWithin4_c (n a b : Int) (w : World) :
    Calls Try.prog 24 #[.int .i64 n, .int .i64 a, .int .i64 b] w fun e w' => e = .returned (.bool (wn n a b)) ∧ w = w' := by
  go_enter Try.func24, Try.ntmps24
  go_wp2_with (go_at_call 50; refine (Within24_c _ _ _ _).mono ?_; rintro e w' ⟨rfl, rfl⟩)
  go_ret
  exact ⟨rfl, rfl⟩
set_option maxHeartbeats 400000 in
theorem refIsWhen4_c (n : Int) (w : World) :
    Calls Try.prog 25 #[.int .i64 n] w fun e w' => e = .returned (.bool (when4 n)) ∧ w = w' := by
  unfold when4
  cases e1 : (n == 1) <;> cases e2 : (n == 2)
  all_goals
    go_enter Try.func25, Try.ntmps25
    go_wp2
    go_ret
    exact ⟨rfl, rfl⟩
def kn4 (e : Int) : Bool := (e == 0) || (e == 3)
def sane4 (s : Sp) : Bool := decide (s.lo ≤ s.hi) && (decide (-99999 ≤ s.lo) && decide (s.hi ≤ 99999))
set_option maxHeartbeats 800000 in
theorem isRod4_c (ir glo ghi wrg : Int) (Ar : Option Addr) (nr cr : Nat) (Ad : Option Addr) (nd cd : Nat) (n : Int) (w : World) (hnr : nr ≤ 40) :
    Calls Try.prog 26 #[.agg #[.int .i64 ir, .int .i64 glo, .int .i64 ghi, .slice Ar nr cr, .slice Ad nd cd, .int .i64 wrg], .int .i64 n] w fun e w' => e = .returned (.bool (wn n 0 ((nr : Int) - 1))) ∧ Below w.heap.size w w' := by
  have v1 : IntKind.i64.wrap ((nr : Int) - 1) = (nr : Int) - 1 := IntWalk.i64_in _ (by omega)
  go_enter Try.func26, Try.ntmps26
  go_wp2_with (go_at_call 24; refine (refWithin4_c _ _ _ _).mono ?_; rintro e w' ⟨rfl, rfl⟩)
  go_ret
  exact ⟨rfl, by (repeat first | with_reducible assumption | with_reducible exact Below.refl _ _ | (with_reducible refine Below.alloc ?_ ?side _; case side => (first | omega | (with_reducible exact Below.size (by assumption)) | (simp; done) | (simp; omega))) | (with_reducible refine Below.setCell ?_ ?side _; case side => (first | omega | (with_reducible exact Below.size (by assumption)) | (simp; done) | (simp; omega))) | with_reducible refine Below.drew ?_ | with_reducible refine below_drewN ?_ _ | (with_reducible refine below_step (by assumption) ?side ?_; case side => (first | omega | (with_reducible exact Below.size (by assumption)) | (simp; done) | (simp; omega))))⟩

end Go.Proofs.Ytglpgcgidkdkiaa
