/- The small functions of links (layer 2). -/
import Derived.Test.YtglpgcgidkdkiaaChecked
import Derived.Test.YtglpgcgidkdkiaaQd19
import Derived.Shelf.Abstract
import Derived.Laws.EntriesVeiled
namespace Go.Proofs.Ytglpgcgidkdkiaa
open Go.RowKit
open Go.Sort (grow)
set_option linter.unusedVariables false
set_option linter.unusedSimpArgs false

set_option maxHeartbeats 400000 in
theorem within2_c (n a b : Int) (w : World) :
    Calls Try.prog 92 #[.int .i64 n, .int .i64 a, .int .i64 b] w fun e w' => e = .returned (.bool (wn n a b)) ∧ w = w' := by
  go_enter Try.func92, Try.ntmps92
  go_wp2
  all_goals
    go_ret
    exact ⟨ret_bool (by simp [wn, *] <;> omega), rfl⟩
set_option maxHeartbeats 400000 in
theorem Within2_c (n a b : Int) (w : World) :
    Calls Try.prog 50 #[.int .i64 n, .int .i64 a, .int .i64 b] w fun e w' => e = .returned (.bool (wn n a b)) ∧ w = w' := by
  go_enter Try.func50, Try.ntmps50
  go_wp2
  all_goals
    go_ret
    exact ⟨ret_bool (by simp [wn, *] <;> omega), rfl⟩
set_option maxHeartbeats 400000 in
theorem isMark_c (x y a : Int) (w : World) :
    Calls Try.prog 95 #[.int .i64 x, .int .i64 y, .int .i64 a] w fun e w' => e = .returned (.bool (wn x a 99 && wn y a 99)) ∧ w = w' := by
  go_enter Try.func95, Try.ntmps95
  go_wp2_with (go_at_call 92; refine (within2_c _ _ _ _).mono ?_; rintro e w' ⟨rfl, rfl⟩)
  all_goals
    go_ret
    exact ⟨ret_bool (by simp [*]), rfl⟩
set_option maxHeartbeats 400000 in
theorem grows_c (d : Dd) (w : World) :
    Calls Try.prog 94 #[.agg #[.int .i64 d.wh, .int .i64 d.pl, .int .i64 d.fr, .int .i64 d.ba, .int .i64 d.sm]] w fun e w' => e = .returned (.int .i64 (gr2 d)) ∧ Below w.heap.size w w' := by
  obtain ⟨wh, pl, fr, ba, sm⟩ := d
  unfold gr2
  simp only
  cases e1 : (wh == 1) <;> cases e2 : (wh == 2)
  all_goals
    go_enter Try.func94, Try.ntmps94
    go_wp2
    go_ret
    exact ⟨rfl, by (repeat first | with_reducible assumption | with_reducible exact Below.refl _ _ | (with_reducible refine Below.alloc ?_ ?side _; case side => (first | omega | (with_reducible exact Below.size (by assumption)) | (simp; done) | (simp; omega))) | (with_reducible refine Below.setCell ?_ ?side _; case side => (first | omega | (with_reducible exact Below.size (by assumption)) | (simp; done) | (simp; omega))) | with_reducible refine Below.drew ?_ | with_reducible refine below_drewN ?_ _ | (with_reducible refine below_step (by assumption) ?side ?_; case side => (first | omega | (with_reducible exact Below.size (by assumption)) | (simp; done) | (simp; omega))))⟩
set_option maxRecDepth 100000 in
set_option maxHeartbeats 1600000 in
theorem isDeed_c (d : Dd) (m : Int) (w : World) (hm : -40 ≤ m ∧ m ≤ 40) :
    Calls Try.prog 93 #[.agg #[.int .i64 d.wh, .int .i64 d.pl, .int .i64 d.fr, .int .i64 d.ba, .int .i64 d.sm], .int .i64 m] w fun e w' => e = .returned (.bool (dk2 d m)) ∧ Below w.heap.size w w' := by
  obtain ⟨wh, pl, fr, ba, sm⟩ := d
  have hw : IntKind.i64.wrap (m - 1) = m - 1 := IntWalk.i64_in _ (by omega)
  have k0 : (pl == pl) = true := by simp
  have k1 : (fr == fr) = true := by simp
  have k2 : (wh == wh) = true := by simp
  unfold dk2
  simp only
  cases e1 : (wh == 1)
  · cases e2 : (wh == 2)
    · cases e3 : (wh == 3)
      · cases e4 : (wh == 4)
        · go_enter Try.func93, Try.ntmps93
          go_wp2
          go_ret
          exact ⟨rfl, by (repeat first | with_reducible assumption | with_reducible exact Below.refl _ _ | (with_reducible refine Below.alloc ?_ ?side _; case side => (first | omega | (with_reducible exact Below.size (by assumption)) | (simp; done) | (simp; omega))) | (with_reducible refine Below.setCell ?_ ?side _; case side => (first | omega | (with_reducible exact Below.size (by assumption)) | (simp; done) | (simp; omega))) | with_reducible refine Below.drew ?_ | with_reducible refine below_drewN ?_ _ | (with_reducible refine below_step (by assumption) ?side ?_; case side => (first | omega | (with_reducible exact Below.size (by assumption)) | (simp; done) | (simp; omega))))⟩
        · cases h1 : (pl == 0) <;> cases h2 : (fr == 0) <;> cases h3 : (ba == 0) <;> cases h4 : (sm == 0)
          all_goals
            go_enter Try.func93, Try.ntmps93
            go_wp2
            go_ret
            exact ⟨ret_bool (by first | rfl | simp [*]), by (repeat first | with_reducible assumption | with_reducible exact Below.refl _ _ | (with_reducible refine Below.alloc ?_ ?side _; case side => (first | omega | (with_reducible exact Below.size (by assumption)) | (simp; done) | (simp; omega))) | (with_reducible refine Below.setCell ?_ ?side _; case side => (first | omega | (with_reducible exact Below.size (by assumption)) | (simp; done) | (simp; omega))) | with_reducible refine Below.drew ?_ | with_reducible refine below_drewN ?_ _ | (with_reducible refine below_step (by assumption) ?side ?_; case side => (first | omega | (with_reducible exact Below.size (by assumption)) | (simp; done) | (simp; omega))))⟩
      · cases h1 : (pl == 0) <;> cases h2 : (fr == 0) <;> cases h3 : (ba == 0) <;> cases h4 : (sm == 0)
        all_goals
          go_enter Try.func93, Try.ntmps93
          go_wp2
          go_ret
          exact ⟨ret_bool (by first | rfl | simp [*]), by (repeat first | with_reducible assumption | with_reducible exact Below.refl _ _ | (with_reducible refine Below.alloc ?_ ?side _; case side => (first | omega | (with_reducible exact Below.size (by assumption)) | (simp; done) | (simp; omega))) | (with_reducible refine Below.setCell ?_ ?side _; case side => (first | omega | (with_reducible exact Below.size (by assumption)) | (simp; done) | (simp; omega))) | with_reducible refine Below.drew ?_ | with_reducible refine below_drewN ?_ _ | (with_reducible refine below_step (by assumption) ?side ?_; case side => (first | omega | (with_reducible exact Below.size (by assumption)) | (simp; done) | (simp; omega))))⟩
    · cases h3 : (ba == 0) <;> cases h4 : (sm == 0)
      all_goals
        go_enter Try.func93, Try.ntmps93
        go_wp2_with (go_at_call 92; refine (within2_c _ _ _ _).mono ?_; rintro e w' ⟨rfl, rfl⟩)
        all_goals
          go_ret
          exact ⟨ret_bool (by first | rfl | simp [*]), by (repeat first | with_reducible assumption | with_reducible exact Below.refl _ _ | (with_reducible refine Below.alloc ?_ ?side _; case side => (first | omega | (with_reducible exact Below.size (by assumption)) | (simp; done) | (simp; omega))) | (with_reducible refine Below.setCell ?_ ?side _; case side => (first | omega | (with_reducible exact Below.size (by assumption)) | (simp; done) | (simp; omega))) | with_reducible refine Below.drew ?_ | with_reducible refine below_drewN ?_ _ | (with_reducible refine below_step (by assumption) ?side ?_; case side => (first | omega | (with_reducible exact Below.size (by assumption)) | (simp; done) | (simp; omega))))⟩
  · go_enter Try.func93, Try.ntmps93
    go_wp2_with (first | (go_at_call 92; refine (within2_c _ _ _ _).mono ?_; rintro e w' ⟨rfl, rfl⟩) | (go_at_call 95; refine (isMark_c _ _ _ _).mono ?_; rintro e w' ⟨rfl, rfl⟩))
    all_goals
      go_ret
      exact ⟨ret_bool (by first | rfl | simp [*]), by (repeat first | with_reducible assumption | with_reducible exact Below.refl _ _ | (with_reducible refine Below.alloc ?_ ?side _; case side => (first | omega | (with_reducible exact Below.size (by assumption)) | (simp; done) | (simp; omega))) | (with_reducible refine Below.setCell ?_ ?side _; case side => (first | omega | (with_reducible exact Below.size (by assumption)) | (simp; done) | (simp; omega))) | with_reducible refine Below.drew ?_ | with_reducible refine below_drewN ?_ _ | (with_reducible refine below_step (by assumption) ?side ?_; case side => (first | omega | (with_reducible exact Below.size (by assumption)) | (simp; done) | (simp; omega))))⟩
theorem intE2 : ElemT Try.prog 33 3 1 8 := by
  obtain ⟨i0, hi0, hz0, hz1, hz2⟩ := info_parts (P := Try.prog) (show (Try.prog.info? 3).map (fun i => (i.zero, i.size, i.bytes)) = some (some (.int .i64 0), 1, 8) by kernel_rfl)
  exact ⟨Try.underlying33, ⟨i0, _, hi0, hz0, hz1, hz2, rfl⟩, by omega, by omega⟩

end Go.Proofs.Ytglpgcgidkdkiaa
