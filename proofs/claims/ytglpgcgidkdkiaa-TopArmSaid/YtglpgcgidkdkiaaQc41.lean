/- Example of the statements (layer 4). -/
import Derived.Test.YtglpgcgidkdkiaaQc40
namespace Go.Proofs.Ytglpgcgidkdkiaa
open Go.RowKit
open Go.Sort (grow)
set_option linter.unusedVariables false
set_option linter.unusedSimpArgs false

theorem own_blk {w : World} {base g n size : Nat} {e : TypeId} {cs : Array Value} {xs : List Value} (h : Blk w g e cs) (hb : base ≤ g) (hn : n ≤ maxLen) (hs : cs.size = n * size) (hx : cs.toList = xs) : w.ownsRow base e size (.slice (some ⟨g, 0, none⟩) n n) n xs :=
  ⟨by rw [← hx, Array.length_toList, hs], .inr ⟨g, n, cs, rfl, hb, h, Nat.le_refl _, hn, hs, by rw [← hs, ← Array.length_toList, List.take_length, hx]⟩⟩
theorem sl_blk {α : Type} {enc : α → List Value} {size : Nat} {d : α} (hs : ∀ x, (enc x).length = size) {w : World} {cs : Array Value} {e : TypeId} {ys : List α} {g m : Nat} (h : Blk w g e cs) (hl : ys.length = m) (hcs : cs.toList = ys.flatMap enc) :
    SlAt enc size d w (some ⟨g, 0, none⟩) m ys := by
  refine ⟨hl, fun _ => ⟨g, 0, rfl, h.lt, fun k hk j u hu => ?_⟩⟩
  have hj : j < size := by
    have := (List.getElem?_eq_some_iff.1 hu).1
    rwa [hs] at this
  rw [h.cell, Nat.zero_add, ← Array.getElem?_toList, hcs, flat_get (d := d) hs ys k j hj (by omega)]
  exact hu
set_option maxRecDepth 100000 in
set_option maxHeartbeats 3200000 in
theorem Example4_c (w : World) :
    Calls Try.prog 28 #[] w fun e w' => ∃ gr gd, e = .returned (.tuple #[.agg #[.int .i64 12, .int .i64 9900, .int .i64 10200, .slice (some ⟨gr, 0, none⟩) 2 2, .slice (some ⟨gd, 0, none⟩) 2 2, .int .i64 0], .agg #[.int .i64 1, .int .i64 1, .int .i64 20, .int .i64 0, .int .i64 1, .int .i64 20, .int .i64 20]]) ∧
      gr ≠ gd ∧ w.heap.size ≤ gr ∧ w.heap.size ≤ gd ∧ Blk w' gr 64 #[.int .i64 1000, .int .i64 1, .int .i64 12, .int .i64 500, .int .i64 0, .int .i64 20] ∧ Blk w' gd 66 #[.int .i64 1, .int .i64 0, .int .i64 10, .int .i64 0, .int .i64 2, .int .i64 0, .int .i64 0, .int .i64 2, .int .i64 0, .int .i64 10, .int .i64 30, .int .i64 2, .int .i64 0, .int .i64 0] ∧ Below w.heap.size w w' := by
  go_enter Try.func28, Try.ntmps28
  go_upto_region 2 with (fail)
  go_name_world X hX
  have BX : Below w.heap.size w X := (al5 hX).1
  have q4 := (al5_4 hX).2.1
  have l4 := (al5_4 hX).1
  have HB0 : Hid (Blk X w.heap.size 27 #[.int .i64 0, .int .i64 0, .int .i64 0, .slice none 0 0, .slice none 0 0, .int .i64 0]) := by rw [← hX]; exact Lib.hid (((((Blk.new w _ _).alloc _).alloc _).alloc _).alloc _)
  have HB1 : Hid (Blk X (w.heap.size + 1) 66 #[.int .i64 0, .int .i64 0, .int .i64 0, .int .i64 0, .int .i64 0, .int .i64 0, .int .i64 0]) := by
    rw [← hX]
    have := Blk.new (w.alloc (.cells #[.int .i64 0, .int .i64 0, .int .i64 0, .slice none 0 0, .slice none 0 0, .int .i64 0] 27)) 66 #[.int .i64 0, .int .i64 0, .int .i64 0, .int .i64 0, .int .i64 0, .int .i64 0, .int .i64 0]
    simp only [World.size_alloc] at this
    exact Lib.hid (((this.alloc _).alloc _).alloc _)
  have HB2 : Hid (Blk X (w.heap.size + 1 + 1) 64 #[.int .i64 1000, .int .i64 1, .int .i64 12, .int .i64 500, .int .i64 0, .int .i64 20]) := by
    rw [← hX]
    have := Blk.new ((w.alloc (.cells #[.int .i64 0, .int .i64 0, .int .i64 0, .slice none 0 0, .slice none 0 0, .int .i64 0] 27)).alloc (.cells #[.int .i64 0, .int .i64 0, .int .i64 0, .int .i64 0, .int .i64 0, .int .i64 0, .int .i64 0] 66)) 64 #[.int .i64 1000, .int .i64 1, .int .i64 12, .int .i64 500, .int .i64 0, .int .i64 20]
    simp only [World.size_alloc] at this
    exact Lib.hid ((this.alloc _).alloc _)
  have HB3 : Hid (Blk X (w.heap.size + 1 + 1 + 1) 66 #[.int .i64 1, .int .i64 0, .int .i64 10, .int .i64 0, .int .i64 2, .int .i64 0, .int .i64 0, .int .i64 2, .int .i64 0, .int .i64 10, .int .i64 30, .int .i64 2, .int .i64 0, .int .i64 0]) := by
    rw [← hX]
    have := Blk.new (((w.alloc (.cells #[.int .i64 0, .int .i64 0, .int .i64 0, .slice none 0 0, .slice none 0 0, .int .i64 0] 27)).alloc (.cells #[.int .i64 0, .int .i64 0, .int .i64 0, .int .i64 0, .int .i64 0, .int .i64 0, .int .i64 0] 66)).alloc (.cells #[.int .i64 1000, .int .i64 1, .int .i64 12, .int .i64 500, .int .i64 0, .int .i64 20] 64)) 66 #[.int .i64 1, .int .i64 0, .int .i64 10, .int .i64 0, .int .i64 2, .int .i64 0, .int .i64 0, .int .i64 2, .int .i64 0, .int .i64 10, .int .i64 30, .int .i64 2, .int .i64 0, .int .i64 0]
    simp only [World.size_alloc] at this
    exact Lib.hid (this.alloc _)
  have k0 := HB0.out.cell
  have f0 := HB0.out.frozen
  have l0 := HB0.out.lt
  have k1 := HB1.out.cell
  have f1 := HB1.out.frozen
  have l1 := HB1.out.lt
  clear hX
  go_wp2_with fail
  have hb0 := (((((((((((((HB0.out.set_ 0 (.int .i64 12)).set_ 1 (.int .i64 9900)).set_ 2 (.int .i64 10200)).set_ 3 (.slice (some ⟨w.heap.size + 1 + 1, 0, none⟩) 2 2)).set_ 4 (.slice (some ⟨w.heap.size + 1 + 1 + 1, 0, none⟩) 2 2)).set_ 5 (.int .i64 0)).far (p := ⟨w.heap.size + 1, 0, none⟩) (by simp) (.int .i64 1)).far (p := ⟨w.heap.size + 1, 1, none⟩) (by simp) (.int .i64 1)).far (p := ⟨w.heap.size + 1, 2, none⟩) (by simp) (.int .i64 20)).far (p := ⟨w.heap.size + 1, 3, none⟩) (by simp) (.int .i64 0)).far (p := ⟨w.heap.size + 1, 4, none⟩) (by simp) (.int .i64 1)).far (p := ⟨w.heap.size + 1, 5, none⟩) (by simp) (.int .i64 20)).far (p := ⟨w.heap.size + 1, 6, none⟩) (by simp) (.int .i64 20))
  have hb1 := (((((((((((((HB1.out.far (p := ⟨w.heap.size, 0, none⟩) (by simp) (.int .i64 12)).far (p := ⟨w.heap.size, 1, none⟩) (by simp) (.int .i64 9900)).far (p := ⟨w.heap.size, 2, none⟩) (by simp) (.int .i64 10200)).far (p := ⟨w.heap.size, 3, none⟩) (by simp) (.slice (some ⟨w.heap.size + 1 + 1, 0, none⟩) 2 2)).far (p := ⟨w.heap.size, 4, none⟩) (by simp) (.slice (some ⟨w.heap.size + 1 + 1 + 1, 0, none⟩) 2 2)).far (p := ⟨w.heap.size, 5, none⟩) (by simp) (.int .i64 0)).set_ 0 (.int .i64 1)).set_ 1 (.int .i64 1)).set_ 2 (.int .i64 20)).set_ 3 (.int .i64 0)).set_ 4 (.int .i64 1)).set_ 5 (.int .i64 20)).set_ 6 (.int .i64 20))
  have hb2 := Lib.hid ((((((((((((((HB2.out.far (p := ⟨w.heap.size, 0, none⟩) (by show w.heap.size + 1 + 1 ≠ _; simp; try omega) (.int .i64 12)).far (p := ⟨w.heap.size, 1, none⟩) (by show w.heap.size + 1 + 1 ≠ _; simp; try omega) (.int .i64 9900)).far (p := ⟨w.heap.size, 2, none⟩) (by show w.heap.size + 1 + 1 ≠ _; simp; try omega) (.int .i64 10200)).far (p := ⟨w.heap.size, 3, none⟩) (by show w.heap.size + 1 + 1 ≠ _; simp; try omega) (.slice (some ⟨w.heap.size + 1 + 1, 0, none⟩) 2 2)).far (p := ⟨w.heap.size, 4, none⟩) (by show w.heap.size + 1 + 1 ≠ _; simp; try omega) (.slice (some ⟨w.heap.size + 1 + 1 + 1, 0, none⟩) 2 2)).far (p := ⟨w.heap.size, 5, none⟩) (by show w.heap.size + 1 + 1 ≠ _; simp; try omega) (.int .i64 0)).far (p := ⟨w.heap.size + 1, 0, none⟩) (by show w.heap.size + 1 + 1 ≠ _; simp; try omega) (.int .i64 1)).far (p := ⟨w.heap.size + 1, 1, none⟩) (by show w.heap.size + 1 + 1 ≠ _; simp; try omega) (.int .i64 1)).far (p := ⟨w.heap.size + 1, 2, none⟩) (by show w.heap.size + 1 + 1 ≠ _; simp; try omega) (.int .i64 20)).far (p := ⟨w.heap.size + 1, 3, none⟩) (by show w.heap.size + 1 + 1 ≠ _; simp; try omega) (.int .i64 0)).far (p := ⟨w.heap.size + 1, 4, none⟩) (by show w.heap.size + 1 + 1 ≠ _; simp; try omega) (.int .i64 1)).far (p := ⟨w.heap.size + 1, 5, none⟩) (by show w.heap.size + 1 + 1 ≠ _; simp; try omega) (.int .i64 20)).far (p := ⟨w.heap.size + 1, 6, none⟩) (by show w.heap.size + 1 + 1 ≠ _; simp; try omega) (.int .i64 20)))
  have hb3 := Lib.hid ((((((((((((((HB3.out.far (p := ⟨w.heap.size, 0, none⟩) (by show w.heap.size + 1 + 1 + 1 ≠ _; simp; try omega) (.int .i64 12)).far (p := ⟨w.heap.size, 1, none⟩) (by show w.heap.size + 1 + 1 + 1 ≠ _; simp; try omega) (.int .i64 9900)).far (p := ⟨w.heap.size, 2, none⟩) (by show w.heap.size + 1 + 1 + 1 ≠ _; simp; try omega) (.int .i64 10200)).far (p := ⟨w.heap.size, 3, none⟩) (by show w.heap.size + 1 + 1 + 1 ≠ _; simp; try omega) (.slice (some ⟨w.heap.size + 1 + 1, 0, none⟩) 2 2)).far (p := ⟨w.heap.size, 4, none⟩) (by show w.heap.size + 1 + 1 + 1 ≠ _; simp; try omega) (.slice (some ⟨w.heap.size + 1 + 1 + 1, 0, none⟩) 2 2)).far (p := ⟨w.heap.size, 5, none⟩) (by show w.heap.size + 1 + 1 + 1 ≠ _; simp; try omega) (.int .i64 0)).far (p := ⟨w.heap.size + 1, 0, none⟩) (by show w.heap.size + 1 + 1 + 1 ≠ _; simp; try omega) (.int .i64 1)).far (p := ⟨w.heap.size + 1, 1, none⟩) (by show w.heap.size + 1 + 1 + 1 ≠ _; simp; try omega) (.int .i64 1)).far (p := ⟨w.heap.size + 1, 2, none⟩) (by show w.heap.size + 1 + 1 + 1 ≠ _; simp; try omega) (.int .i64 20)).far (p := ⟨w.heap.size + 1, 3, none⟩) (by show w.heap.size + 1 + 1 + 1 ≠ _; simp; try omega) (.int .i64 0)).far (p := ⟨w.heap.size + 1, 4, none⟩) (by show w.heap.size + 1 + 1 + 1 ≠ _; simp; try omega) (.int .i64 1)).far (p := ⟨w.heap.size + 1, 5, none⟩) (by show w.heap.size + 1 + 1 + 1 ≠ _; simp; try omega) (.int .i64 20)).far (p := ⟨w.heap.size + 1, 6, none⟩) (by show w.heap.size + 1 + 1 + 1 ≠ _; simp; try omega) (.int .i64 20)))
  have d0 := hb0.cell 0
  have d1 := hb0.cell 1
  have d2 := hb0.cell 2
  have d3 := hb0.cell 3
  have d4 := hb0.cell 4
  have d5 := hb0.cell 5
  have e0 := hb1.cell 0
  have e1 := hb1.cell 1
  have e2 := hb1.cell 2
  have e3 := hb1.cell 3
  have e4 := hb1.cell 4
  have e5 := hb1.cell 5
  have e6 := hb1.cell 6
  simp only [List.setIfInBounds_toArray, List.set_cons_zero, List.set_cons_succ] at d0 d1 d2 d3 d4 d5 e0 e1 e2 e3 e4 e5 e6
  clear hb0 hb1 k0 k1 f0 f1 q4
  exact bodyPost_ret (v := .tuple #[.agg #[.int .i64 12, .int .i64 9900, .int .i64 10200, .slice (some ⟨w.heap.size + 1 + 1, 0, none⟩) 2 2, .slice (some ⟨w.heap.size + 1 + 1 + 1, 0, none⟩) 2 2, .int .i64 0], .agg #[.int .i64 1, .int .i64 1, .int .i64 20, .int .i64 0, .int .i64 1, .int .i64 20, .int .i64 20]]) (by simp [results, Try.results28, go_sem, d0, d1, d2, d3, d4, d5, e0, e1, e2, e3, e4, e5, e6]) rfl ⟨_, _, rfl, by omega, by omega, by omega, hb2.out, hb3.out, by (repeat first | with_reducible assumption | with_reducible exact Below.refl _ _ | (with_reducible refine Below.alloc ?_ ?side _; case side => (first | omega | (with_reducible exact Below.size (by assumption)) | (simp; done) | (simp; omega))) | (with_reducible refine Below.setCell ?_ ?side _; case side => (first | omega | (with_reducible exact Below.size (by assumption)) | (simp; done) | (simp; omega))) | with_reducible refine Below.drew ?_ | with_reducible refine below_drewN ?_ _ | (with_reducible refine below_step (by assumption) ?side ?_; case side => (first | omega | (with_reducible exact Below.size (by assumption)) | (simp; done) | (simp; omega))))⟩

theorem ro4E : ElemT Try.prog 24 64 3 24 := by
  obtain ⟨i0, hi0, hz0, hz1, hz2⟩ := info_parts (P := Try.prog) (show (Try.prog.info? 64).map (fun i => (i.zero, i.size, i.bytes)) = some (some (.agg #[.int .i64 0, .int .i64 0, .int .i64 0]), 3, 24) by kernel_rfl)
  exact ⟨Try.underlying24, ⟨i0, _, hi0, hz0, hz1, hz2, rfl⟩, by omega, by omega⟩
theorem re4E : ElemT Try.prog 25 66 7 56 := by
  obtain ⟨i0, hi0, hz0, hz1, hz2⟩ := info_parts (P := Try.prog) (show (Try.prog.info? 66).map (fun i => (i.zero, i.size, i.bytes)) = some (some (.agg #[.int .i64 0, .int .i64 0, .int .i64 0, .int .i64 0, .int .i64 0, .int .i64 0, .int .i64 0]), 7, 56) by kernel_rfl)
  exact ⟨Try.underlying25, ⟨i0, _, hi0, hz0, hz1, hz2, rfl⟩, by omega, by omega⟩
theorem ev_same4 : (2 == 2 && allN 2 fun k => iAt [10001, 10002] k == iAt [10001, 10002] k) = true := by decide
/-- what lies in memory: the pull, the reading, the rods -/
structure Dw4 (g gr : Nat) (v : Value) (V : World) : Prop where
  p : Blk V g 27 #[.int .i64 12, .int .i64 9900, .int .i64 10200, .slice (some ⟨gr, 0, none⟩) 2 2, v, .int .i64 0]
  m : Blk V (g + 1) 66 #[.int .i64 1, .int .i64 1, .int .i64 20, .int .i64 0, .int .i64 1, .int .i64 20, .int .i64 20]
  r : Blk V gr 64 #[.int .i64 1000, .int .i64 1, .int .i64 12, .int .i64 500, .int .i64 0, .int .i64 20]
theorem Dw4.below {g gr : Nat} {v : Value} {V V' : World} (h : Dw4 g gr v V) (hb : Below V.heap.size V V') : Dw4 g gr v V' := ⟨h.p.below hb h.p.lt, h.m.below hb h.m.lt, h.r.below hb h.r.lt⟩

end Go.Proofs.Ytglpgcgidkdkiaa
