/- The example of the statements (layer 3), and what Load and Many give for it; a machine with one lever. -/
import Derived.Test.YtcinhibmohkeiaaQy37
import Derived.Shelf.Abstract
import Derived.Laws.EntriesVeiled
import Derived.Handy
import Derived.Deep.DrawnRows
import Derived.Deep.DeepCutAuto
namespace Go.Proofs.Ytcinhibmohkeiaa
open Go.RowKit
open Go.Sort (grow)
set_option linter.unusedVariables false
set_option linter.unusedSimpArgs false

def exLv3 : List Lv := [⟨100, 10, 11⟩, ⟨50, 5, 5⟩]
def exBl3 : List Bal := [⟨10, 5, 2500, 250⟩]
theorem ex3_ld : (ldP 2 1 20 1 2 0 exLv3 exBl3 30 0).1.lo = 4545 ∧ (ldP 2 1 20 1 2 0 exLv3 exBl3 30 0).1.hi = 5000 ∧ (ldP 2 1 20 1 2 0 exLv3 exBl3 30 0).2 = 0 := by decide +kernel
theorem ex3_mn : mnP 2 1 20 1 2 0 exLv3 exBl3 = (2, 0) := by decide +kernel
set_option maxRecDepth 100000 in
set_option maxHeartbeats 1600000 in
theorem Example3_c (w : World) :
    Calls Try.prog 19 #[] w fun e w' => ∃ Al Ab, e = .returned (.agg #[.slice Al 2 2, .int .i64 20, .int .i64 1, .int .i64 2, .slice Ab 1 1, .int .i64 0]) ∧ LvsAt w' Al 2 exLv3 ∧ BasAt w' Ab 1 exBl3 ∧ Below w.heap.size w w' := by
  go_enter Try.func19, Try.ntmps19
  go_wp2_with fail
  have hC := fun (c1 c2 : Array Value) (t1 t2 : TypeId) => (al3_0 (w := w) (cs0 := #[Value.slice (some ⟨w.heap.size + 1, 0, none⟩) 2 2, .int .i64 20, .int .i64 1, .int .i64 2, .slice (some ⟨w.heap.size + 1 + 1, 0, none⟩) 1 1, .int .i64 0]) (cs1 := c1) (cs2 := c2) (t0 := 27) (t1 := t1) (t2 := t2) rfl).2.1
  refine bodyPost_ret (v := .agg #[.slice (some ⟨w.heap.size + 1, 0, none⟩) 2 2, .int .i64 20, .int .i64 1, .int .i64 2, .slice (some ⟨w.heap.size + 1 + 1, 0, none⟩) 1 1, .int .i64 0]) ?_ rfl ⟨some ⟨w.heap.size + 1, 0, none⟩, some ⟨w.heap.size + 1 + 1, 0, none⟩, rfl, LvsAt.later (show LvsAt _ _ _ _ from sl_new (d := (⟨0, 0, 0⟩ : Lv)) encV_len (by simp) rfl rfl) ((Below.refl _ _).alloc (Nat.le_refl _) _), (show BasAt _ _ _ _ from sl_new (d := (⟨0, 0, 0, 0⟩ : Bal)) encA_len (by simp) rfl rfl), by (repeat first | with_reducible assumption | with_reducible exact Below.refl _ _ | (with_reducible refine Below.alloc ?_ ?side _; case side => (first | omega | (with_reducible exact Below.size (by assumption)) | (simp; done) | (simp; omega))) | (with_reducible refine Below.setCell ?_ ?side _; case side => (first | omega | (with_reducible exact Below.size (by assumption)) | (simp; done) | (simp; omega))) | with_reducible refine Below.drew ?_ | with_reducible refine below_drewN ?_ _ | (with_reducible refine below_step (by assumption) ?side ?_; case side => (first | omega | (with_reducible exact Below.size (by assumption)) | (simp; done) | (simp; omega))))⟩
  simp [results, Try.results19, go_sem, hC]
theorem Load_ex3 (Al Ab : Option Addr) (W : World) (HL : LvsAt W Al 2 exLv3) (HB : BasAt W Ab 1 exBl3) :
    Calls Try.prog 24 #[.agg #[.slice Al 2 2, .int .i64 20, .int .i64 1, .int .i64 2, .slice Ab 1 1, .int .i64 0], .int .i64 30, .int .i64 0] W fun e w' => e = .returned (.tuple #[.agg #[.int .i64 4545, .int .i64 5000], .int .i64 0]) ∧ Below W.heap.size W w' := by
  have := Load_c Al 2 2 20 1 2 Ab 1 1 0 exLv3 exBl3 30 0 W (by omega) (by omega) HL HB
  rw [ex3_ld.1, ex3_ld.2.1, ex3_ld.2.2] at this
  exact this
theorem Many_ex3 (Al Ab : Option Addr) (W : World) (HL : LvsAt W Al 2 exLv3) (HB : BasAt W Ab 1 exBl3) :
    Calls Try.prog 21 #[.agg #[.slice Al 2 2, .int .i64 20, .int .i64 1, .int .i64 2, .slice Ab 1 1, .int .i64 0]] W fun e w' => e = .returned (.tuple #[.int .i64 2, .int .i64 0]) ∧ Below W.heap.size W w' := by
  have := Many3_c Al 2 2 20 1 2 Ab 1 1 0 exLv3 exBl3 W (by omega) (by omega) HL HB
  rw [ex3_mn] at this
  exact this

end Go.Proofs.Ytcinhibmohkeiaa
