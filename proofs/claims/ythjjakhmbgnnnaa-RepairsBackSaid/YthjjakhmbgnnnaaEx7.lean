/- Example of the statements (layer 7). -/
import Derived.Test.YthjjakhmbgnnnaaEv7
namespace Go.Proofs.Ythjjakhmbgnnnaa
open Go.RowKit
open Go.Sort (grow)
set_option linter.unusedVariables false

theorem sl_cells {α : Type} {enc : α → List Value} {size : Nat} {d : α} (hs : ∀ x, (enc x).length = size) {w : World} {cs : Array Value} {ys : List α} {g m : Nat} (hg : g < w.heap.size) (hc : ∀ i, w.cell? ⟨g, i, none⟩ = cs[i]?) (hl : ys.length = m) (hcs : cs.toList = ys.flatMap enc) :
    SlAt enc size d w (some ⟨g, 0, none⟩) m ys := by
  refine ⟨hl, fun _ => ⟨g, 0, rfl, hg, fun k hk j u hu => ?_⟩⟩
  have hj : j < size := by
    have := (List.getElem?_eq_some_iff.1 hu).1
    rwa [hs] at this
  rw [hc, Nat.zero_add, ← Array.getElem?_toList, hcs, flat_get (d := d) hs ys k j hj (by omega)]
  exact hu
set_option maxRecDepth 100000 in
set_option maxHeartbeats 1600000 in
theorem Example_c (w : World) :
    Calls Try.prog 44 #[] w fun e w' => ∃ A, e = .returned (.agg #[.slice A 7 7, .int .i64 40, .int .i64 1, .int .i64 0, .int .i64 2, .int .i64 1]) ∧ SpsAt w' A 7 exL7 ∧ Below w.heap.size w w' := by
  go_enter Try.func44, Try.ntmps44
  go_wp2_with fail
  have hS : ∀ W : World, W.heap.size = w.heap.size + 1 → SpsAt (W.alloc (.cells #[.int .i64 50, .int .i64 60, .int .i64 30, .int .i64 35, .int .i64 50, .int .i64 50, .int .i64 38, .int .i64 45, .int .i64 55, .int .i64 60, .int .i64 60, .int .i64 60, .int .i64 52, .int .i64 58] 35)) (some ⟨w.heap.size + 1, 0, none⟩) 7 exL7 := fun W hW =>
    sps_iff.2 (sl_new encS_len hW rfl rfl)
  have hR : ∀ (W : World) (o : Obj), W.heap.size = w.heap.size → ∀ j, ((W.alloc (.cells #[.slice (some ⟨w.heap.size + 1, 0, none⟩) 7 7, .int .i64 40, .int .i64 1, .int .i64 0, .int .i64 2, .int .i64 1] 24)).alloc o).cell? ⟨w.heap.size, j, none⟩ = #[Value.slice (some ⟨w.heap.size + 1, 0, none⟩) 7 7, .int .i64 40, .int .i64 1, .int .i64 0, .int .i64 2, .int .i64 1][j]? := fun W o hW j => by
    rw [World.cell?_alloc_lt _ _ _ (by simp; omega), ← hW]
    exact World.cell?_alloc_new W _ _ j
  have hr := hR w (.cells #[.int .i64 50, .int .i64 60, .int .i64 30, .int .i64 35, .int .i64 50, .int .i64 50, .int .i64 38, .int .i64 45, .int .i64 55, .int .i64 60, .int .i64 60, .int .i64 60, .int .i64 52, .int .i64 58] 35) rfl
  refine bodyPost_ret (v := .agg #[.slice (some ⟨w.heap.size + 1, 0, none⟩) 7 7, .int .i64 40, .int .i64 1, .int .i64 0, .int .i64 2, .int .i64 1]) ?_ rfl ⟨some ⟨w.heap.size + 1, 0, none⟩, rfl, hS _ (by simp), by (repeat first | with_reducible assumption | with_reducible exact Below.refl _ _ | (with_reducible refine Below.alloc ?_ ?side _; case side => (first | omega | (with_reducible exact Below.size (by assumption)) | (simp; done) | (simp; omega))) | (with_reducible refine Below.setCell ?_ ?side _; case side => (first | omega | (with_reducible exact Below.size (by assumption)) | (simp; done) | (simp; omega))) | with_reducible refine Below.drew ?_ | with_reducible refine below_drewN ?_ _ | (with_reducible refine below_step (by assumption) ?side ?_; case side => (first | omega | (with_reducible exact Below.size (by assumption)) | (simp; done) | (simp; omega))))⟩
  simp [results, Try.results44, go_sem, hr]

end Go.Proofs.Ythjjakhmbgnnnaa
