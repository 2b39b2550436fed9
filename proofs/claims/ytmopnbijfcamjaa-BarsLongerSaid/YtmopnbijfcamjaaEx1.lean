/- Example of the statements (layer 1). -/
import Derived.Test.YtmopnbijfcamjaaEv1
import Derived.Test.YtmopnbijfcamjaaCs1
namespace Go.Proofs.Ytmopnbijfcamjaa
open Go.RowKit
open Go.Sort (grow)
set_option linter.unusedVariables false

theorem sl_cells {α : Type} {enc : α → List Value} {size : Nat} {d : α} (hs : ∀ x, (enc x).length = size) {w : World} {cs : Array Value} {ys : List α} {g m : Nat} (hg : g < w.heap.size) (hc : ∀ i, w.cell? ⟨g, i, none⟩ = cs[i]?) (hl : ys.length = m) (hcs : cs.toList = ys.flatMap enc) :
    SlAt enc size d w (some ⟨g, 0, none⟩) m ys := by
  refine ⟨hl, fun _ => ⟨g, 0, rfl, hg, fun k hk j u hu => ?_⟩⟩
  have hj : j < size := by
    have := (List.getElem?_eq_some_iff.1 hu).1
    rwa [hs] at this
  rw [hc, Nat.zero_add, ← Array.getElem?_toList, hcs, flat_get (d := d) hs ys k j hj (by omega)]
  exact hu
set_option maxRecDepth 100000 in
set_option maxHeartbeats 1600000 in
theorem Example_c (w : World) :
    Calls Try.prog 55 #[] w fun e w' => ∃ A1 A2 ms, e = .returned (.agg #[.slice A1 3 3, .int .i64 5, .slice A2 3 3, .int .i64 0]) ∧ BrsAt w' A1 3 exB ∧ PcsAt w' A2 3 ms exP ∧ Below w.heap.size w w' := by
  go_enter Try.func55, Try.ntmps55
  go_wp2_with fail
  obtain ⟨W, hW⟩ : ∃ W, (((((w.alloc (.cells #[.slice (some ⟨w.heap.size + 1, 0, none⟩) 3 3, .int .i64 5, .slice (some ⟨w.heap.size + 1 + 1 + 1 + 1 + 1, 0, none⟩) 3 3, .int .i64 0] 25)).alloc (.cells #[.int .i64 3, .int .i64 100, .int .i64 5, .int .i64 60, .int .i64 3, .int .i64 45] 60)).alloc (.cells #[.int .i64 3, .int .i64 5] 3)).alloc (.cells #[.int .i64 3] 3)).alloc (.cells #[.int .i64 3, .int .i64 8] 3)).alloc (.cells #[.int .i64 50, .slice (some ⟨w.heap.size + 1 + 1, 0, none⟩) 2 2, .int .i64 45, .slice (some ⟨w.heap.size + 1 + 1 + 1, 0, none⟩) 1 1, .int .i64 40, .slice (some ⟨w.heap.size + 1 + 1 + 1 + 1, 0, none⟩) 2 2] 34) = W := ⟨_, rfl⟩
  rw [hW]
  have BW : Below w.heap.size w W := (al6 hW).1
  have c0 := (al6_0 hW).2.1
  have s1 := (al6_1 hW)
  have s2 := (al6_2 hW)
  have s3 := (al6_3 hW)
  have s4 := (al6_4 hW)
  have s5 := (al6_5 hW)
  have i2 : IntsAt W (some ⟨w.heap.size + 1 + 1, 0, none⟩) 2 [3, 5] := ints_iff.2 (sl_cells encI_len s2.1 s2.2.1 rfl rfl)
  have i3 : IntsAt W (some ⟨w.heap.size + 1 + 1 + 1, 0, none⟩) 1 [3] := ints_iff.2 (sl_cells encI_len s3.1 s3.2.1 rfl rfl)
  have i4 : IntsAt W (some ⟨w.heap.size + 1 + 1 + 1 + 1, 0, none⟩) 2 [3, 8] := ints_iff.2 (sl_cells encI_len s4.1 s4.2.1 rfl rfl)
  have hp : PcsAt W (some ⟨w.heap.size + 1 + 1 + 1 + 1 + 1, 0, none⟩) 3 [⟨50, ⟨some ⟨w.heap.size + 1 + 1, 0, none⟩, 2, 2⟩⟩, ⟨45, ⟨some ⟨w.heap.size + 1 + 1 + 1, 0, none⟩, 1, 1⟩⟩, ⟨40, ⟨some ⟨w.heap.size + 1 + 1 + 1 + 1, 0, none⟩, 2, 2⟩⟩] exP := by
    refine ⟨sl_cells encP_len s5.1 s5.2.1 rfl rfl, rfl, fun k hk => ?_, fun k hk => ?_⟩
    · match k, hk with
      | 0, _ => rfl
      | 1, _ => rfl
      | 2, _ => rfl
    · match k, hk with
      | 0, _ => exact i2
      | 1, _ => exact i3
      | 2, _ => exact i4
  exact bodyPost_ret (v := .agg #[.slice (some ⟨w.heap.size + 1, 0, none⟩) 3 3, .int .i64 5, .slice (some ⟨w.heap.size + 1 + 1 + 1 + 1 + 1, 0, none⟩) 3 3, .int .i64 0]) (by simp [results, Try.results55, go_sem, c0]) rfl ⟨_, _, _, rfl, sl_cells encB_len s1.1 s1.2.1 rfl rfl, hp, BW⟩

end Go.Proofs.Ytmopnbijfcamjaa
