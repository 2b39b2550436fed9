/- Copy of the specification (layer 7): an equal cable in new memory. -/
import Derived.Deep.DrawnRows
import Derived.Test.YtglpgcgidkdkiaaQd02
import Derived.Test.YtglpgcgidkdkiaaQd11
namespace Go.Proofs.Ytglpgcgidkdkiaa
open Go.RowKit
open Go.Sort (grow)
set_option linter.unusedVariables false
set_option linter.unusedSimpArgs false

attribute [local go_sem ↓] Go.wp_at_zero Go.wp_at_succ
theorem sp_info : (Try.prog.info? 23).map (fun i => (i.zero, i.size, i.bytes)) = some (some (.agg #[.int .i64 0, .int .i64 0]), 2, 16) := by kernel_rfl
theorem spE : ElemT Try.prog 46 23 2 16 := by
  obtain ⟨i0, hi0, hz0, hz1, hz2⟩ := info_parts sp_info
  exact ⟨Try.underlying46, ⟨i0, _, hi0, hz0, hz1, hz2, rfl⟩, by omega, by omega⟩
set_option maxRecDepth 100000 in
set_option maxHeartbeats 3200000 in
theorem Copy_c_q7 (A : Option Addr) (n c : Nat) (q : Cb) (ls : List Sp) (w : World) (hn : n ≤ 40) (HL : SpsAt w A n ls) :
    Calls Try.prog 18 #[.agg #[.slice A n c, .int .i64 q.need, .int .i64 q.gap, .int .i64 q.doubt, .int .i64 q.joins, .int .i64 q.least]] w
      fun e w' => ∃ A1 c1, e = .returned (.agg #[.slice A1 n c1, .int .i64 q.need, .int .i64 q.gap, .int .i64 q.doubt, .int .i64 q.joins, .int .i64 q.least]) ∧ w'.ownsRow w.heap.size 23 2 (.slice A1 n c1) n (ls.flatMap encS) ∧ Below w.heap.size w w' := by
  have HLI := Lib.hid HL
  clear HL
  go_enter Try.func18, Try.ntmps18
  go_wp2_with (at_builtin; go_must (refine wpList_append_T _ (d := (⟨0, 0⟩ : Sp)) rfl (.tmp 5) (.tmp 7) _ rfl (w.heap.size + 1 + 1 + 1) _ 2 16 spE encS_len encS_one (.slice (some ⟨w.heap.size + 1 + 1 + 1, 0, none⟩) 0 0) (some (w.heap.size + 1 + 1 + 1)) 0 [] rfl rfl ?ow A n c ls rfl ?sl (by omega) ?sz ?_; (case ow => exact own_empty (by first | (simp; done) | (simp; omega)) (by simp)); (case sz => (first | (simp; done) | (simp; omega))); (case sl => exact sps_iff.1 (HLI.out.later (by (repeat first | with_reducible assumption | with_reducible exact Below.refl _ _ | (with_reducible refine Below.alloc ?_ ?side _; case side => (first | omega | (with_reducible exact Below.size (by assumption)) | (simp; done) | (simp; omega))) | (with_reducible refine Below.setCell ?_ ?side _; case side => (first | omega | (with_reducible exact Below.size (by assumption)) | (simp; done) | (simp; omega))) | with_reducible refine Below.drew ?_ | with_reducible refine below_drewN ?_ _ | (with_reducible refine below_step (by assumption) ?side ?_; case side => (first | omega | (with_reducible exact Below.size (by assumption)) | (simp; done) | (simp; omega))))))); (rintro v8 w8 ho8 hg8 ha8); (rw [Nat.zero_add, List.nil_append] at ho8); (obtain ⟨A8, C8, rfl, -, -⟩ := SlAt.of_own (d := (⟨0, 0⟩ : Sp)) encS_len ho8 HLI.out.1); (have hb8 : Below w.heap.size w w8 := (Below.grown (by (repeat first | with_reducible assumption | with_reducible exact Below.refl _ _ | (with_reducible refine Below.alloc ?_ ?side _; case side => (first | omega | (with_reducible exact Below.size (by assumption)) | (simp; done) | (simp; omega))) | (with_reducible refine Below.setCell ?_ ?side _; case side => (first | omega | (with_reducible exact Below.size (by assumption)) | (simp; done) | (simp; omega))) | with_reducible refine Below.drew ?_ | with_reducible refine below_drewN ?_ _ | (with_reducible refine below_step (by assumption) ?side ?_; case side => (first | omega | (with_reducible exact Below.size (by assumption)) | (simp; done) | (simp; omega))))) hg8 (by simp; omega) (fun k hk => (by cases hk; omega)))); (have hB8 := Below.grown (B := w.heap.size + 1 + 1 + 1) (Below.refl _ _) hg8 (by simp) (fun k hk => (by cases hk; omega))); (have c8 := fun i => (hB8.cell (p := ⟨w.heap.size + 1 + 1, i, none⟩) (by simp)).trans ((al4_2 rfl).2.1 i)); (have f8 := fun i => (hB8.frozen (p := ⟨w.heap.size + 1 + 1, i, none⟩) (by simp)).trans ((al4_2 rfl).2.2 i)); (have p8 := fun i => (hB8.cell (p := ⟨w.heap.size + 1, i, none⟩) (by simp)).trans ((al4_1 rfl).2.1 i)); (have g8 := fun i => (hB8.frozen (p := ⟨w.heap.size + 1, i, none⟩) (by simp)).trans ((al4_1 rfl).2.2 i)); (have z8 := hg8.size); (simp at z8); (have hO8 := Lib.hid ho8); (clear ho8 ha8 hg8 hB8); (have n8 : w.heap.size + 1 + 1 < w8.heap.size := (by omega)); (have n9 : w.heap.size + 1 < w8.heap.size := (by omega))))
  refine bodyPost_ret (v := .agg #[.slice A8 n C8, .int .i64 q.need, .int .i64 q.gap, .int .i64 q.doubt, .int .i64 q.joins, .int .i64 q.least]) ?_ rfl ⟨A8, C8, rfl, ?_, ?_⟩
  · simp [results, Try.results18, go_sem, p8]
  · refine own_mono ?_ (show w.heap.size ≤ w.heap.size + 1 + 1 + 1 by omega)
    repeat first | with_reducible exact hO8.out | refine own_set ?_ (fun k hk => by have := (hO8.out.lt k hk).1; simp; omega)
  · (repeat first | with_reducible assumption | with_reducible exact Below.refl _ _ | (with_reducible refine Below.alloc ?_ ?side _; case side => (first | omega | (with_reducible exact Below.size (by assumption)) | (simp; done) | (simp; omega))) | (with_reducible refine Below.setCell ?_ ?side _; case side => (first | omega | (with_reducible exact Below.size (by assumption)) | (simp; done) | (simp; omega))) | with_reducible refine Below.drew ?_ | with_reducible refine below_drewN ?_ _ | (with_reducible refine below_step (by assumption) ?side ?_; case side => (first | omega | (with_reducible exact Below.size (by assumption)) | (simp; done) | (simp; omega))))

end Go.Proofs.Ytglpgcgidkdkiaa
