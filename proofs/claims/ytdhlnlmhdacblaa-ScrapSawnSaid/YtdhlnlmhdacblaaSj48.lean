/- works of the statements (layer 11): the chapter's examples. -/
import Derived.Test.YtdhlnlmhdacblaaSj46
import Derived.Test.YtdhlnlmhdacblaaSj47
namespace Go.Proofs.Ytdhlnlmhdacblaa
open Go.RowKit
open Go.Sort (grow)
set_option linter.unusedVariables false
set_option linter.unusedSimpArgs false

theorem ev_a1 : ansS (askZ 3 4 exPl exLs 0 (isNo 2 4)) (endsB 3 4 exPl exLs 0 (2 * (2 : Int).toNat)) = .tuple #[.agg #[.int .i64 55, .int .i64 58], .int .i64 0] := by
  rw [ev_askB 2 (by decide), show 2 * (2 : Int).toNat = 4 from rfl, ev_lineB]; rfl
theorem ev_a2 : ansS (askZ 3 4 exPl exLs 0 true) (endsB 3 4 exPl exLs 0 (2 * 4 + 3)) = .tuple #[.agg #[.int .i64 3, .int .i64 5], .int .i64 0] := by
  rw [ev_askB', show 2 * 4 + 3 = 11 from rfl, ev_lostB]; rfl
theorem ev_a3 : ansS (askZ 3 5 exPl exLc 1 (isNo 4 5)) (endsB 3 5 exPl exLc 1 (2 * (4 : Int).toNat)) = .tuple #[.agg #[.int .i64 0, .int .i64 5], .int .i64 0] := by
  rw [show isNo 4 5 = true from rfl, ev_askC, show 2 * (4 : Int).toNat = 8 from rfl, ev_lineC]; rfl
theorem ev_same : (1 == 1 && allN 1 fun k => iAt [4] k == iAt [4] k) = true := by decide

set_option maxRecDepth 100000 in
set_option maxHeartbeats 3200000 in
theorem works_c_q11 (w : World) :
    Calls Try.prog 7 #[] w fun e w' => e = .returned (.bool true) ∧ Below w.heap.size w w' := by
  go_enter Try.func7, Try.ntmps7
  go_wp2_with fail
  refine (Example_c_q11 _).mono ?_
  rintro e w1 ⟨A0, c0, A1, c1, A2, c2, A3, c3, rfl, h1, h2, h3, h4, hb1⟩
  have H1 := Lib.hid h1
  have H2 := Lib.hid h2
  have H3 := Lib.hid h3
  have H4 := Lib.hid h4
  clear h1 h2 h3 h4
  go_wp2_with fail
  refine (fewest_c_q11 A2 A3 3 c2 5 c3 0 exPl exLc _ (by omega) (by omega) (H3.out.later (by (repeat first | with_reducible assumption | with_reducible exact Below.refl _ _ | (with_reducible refine Below.alloc ?_ ?side _; case side => (first | omega | (with_reducible exact Below.size (by assumption)) | (simp; done) | (simp; omega))) | (with_reducible refine Below.setCell ?_ ?side _; case side => (first | omega | (with_reducible exact Below.size (by assumption)) | (simp; done) | (simp; omega))) | with_reducible refine Below.drew ?_ | with_reducible refine below_drewN ?_ _ | (with_reducible refine below_step (by assumption) ?side ?_; case side => (first | omega | (with_reducible exact Below.size (by assumption)) | (simp; done) | (simp; omega)))))) (H4.out.later (by (repeat first | with_reducible assumption | with_reducible exact Below.refl _ _ | (with_reducible refine Below.alloc ?_ ?side _; case side => (first | omega | (with_reducible exact Below.size (by assumption)) | (simp; done) | (simp; omega))) | (with_reducible refine Below.setCell ?_ ?side _; case side => (first | omega | (with_reducible exact Below.size (by assumption)) | (simp; done) | (simp; omega))) | with_reducible refine Below.drew ?_ | with_reducible refine below_drewN ?_ _ | (with_reducible refine below_step (by assumption) ?side ?_; case side => (first | omega | (with_reducible exact Below.size (by assumption)) | (simp; done) | (simp; omega))))))).mono ?_
  rw [ev_few]
  rintro e w2 ⟨rfl, hb2⟩
  obtain ⟨hc2, hf2⟩ := bcell hb2
  have zs2 := hb2.size
  simp only [World.size_alloc] at zs2
  have p2 := fun i => (hc2 w1.heap.size i (by first | omega | (simp; done) | (simp; omega))).trans ((al2_0 rfl).2.1 i)
  have r2 := fun i => (hc2 (w1.heap.size + 1) i (by first | omega | (simp; done) | (simp; omega))).trans ((al2_1 rfl).2.1 i)
  have t2 := fun i => (hf2 (w1.heap.size + 1) i (by first | omega | (simp; done) | (simp; omega))).trans ((al2_1 rfl).2.2 i)
  have b2 : Below w1.heap.size w1 w2 := by (repeat first | with_reducible assumption | with_reducible exact Below.refl _ _ | (with_reducible refine Below.alloc ?_ ?side _; case side => (first | omega | (with_reducible exact Below.size (by assumption)) | (simp; done) | (simp; omega))) | (with_reducible refine Below.setCell ?_ ?side _; case side => (first | omega | (with_reducible exact Below.size (by assumption)) | (simp; done) | (simp; omega))) | with_reducible refine Below.drew ?_ | with_reducible refine below_drewN ?_ _ | (with_reducible refine below_step (by assumption) ?side ?_; case side => (first | omega | (with_reducible exact Below.size (by assumption)) | (simp; done) | (simp; omega))))
  have m2 : w1.heap.size < w2.heap.size := by omega
  have n2 : w1.heap.size + 1 < w2.heap.size := by omega
  clear hc2 hf2 hb2
  go_wp2_with fail
  refine (Line_c A0 A1 3 c0 4 c1 0 2 exPl exLs _ (by omega) (by omega) (H1.out.later (by (repeat first | with_reducible assumption | with_reducible exact Below.refl _ _ | (with_reducible refine Below.alloc ?_ ?side _; case side => (first | omega | (with_reducible exact Below.size (by assumption)) | (simp; done) | (simp; omega))) | (with_reducible refine Below.setCell ?_ ?side _; case side => (first | omega | (with_reducible exact Below.size (by assumption)) | (simp; done) | (simp; omega))) | with_reducible refine Below.drew ?_ | with_reducible refine below_drewN ?_ _ | (with_reducible refine below_step (by assumption) ?side ?_; case side => (first | omega | (with_reducible exact Below.size (by assumption)) | (simp; done) | (simp; omega)))))) (H2.out.later (by (repeat first | with_reducible assumption | with_reducible exact Below.refl _ _ | (with_reducible refine Below.alloc ?_ ?side _; case side => (first | omega | (with_reducible exact Below.size (by assumption)) | (simp; done) | (simp; omega))) | (with_reducible refine Below.setCell ?_ ?side _; case side => (first | omega | (with_reducible exact Below.size (by assumption)) | (simp; done) | (simp; omega))) | with_reducible refine Below.drew ?_ | with_reducible refine below_drewN ?_ _ | (with_reducible refine below_step (by assumption) ?side ?_; case side => (first | omega | (with_reducible exact Below.size (by assumption)) | (simp; done) | (simp; omega))))))).mono ?_
  rw [ev_a1]
  rintro e w3 ⟨rfl, hb3⟩
  obtain ⟨hc3, hf3⟩ := bcell hb3
  have zs3 := hb3.size
  have p3 := fun i => (hc3 w1.heap.size i (by first | omega | (simp; done) | (simp; omega))).trans (p2 i)
  have r3 := fun i => (hc3 (w1.heap.size + 1) i (by first | omega | (simp; done) | (simp; omega))).trans (r2 i)
  have t3 := fun i => (hf3 (w1.heap.size + 1) i (by first | omega | (simp; done) | (simp; omega))).trans (t2 i)
  have b3 : Below w1.heap.size w1 w3 := by (repeat first | with_reducible assumption | with_reducible exact Below.refl _ _ | (with_reducible refine Below.alloc ?_ ?side _; case side => (first | omega | (with_reducible exact Below.size (by assumption)) | (simp; done) | (simp; omega))) | (with_reducible refine Below.setCell ?_ ?side _; case side => (first | omega | (with_reducible exact Below.size (by assumption)) | (simp; done) | (simp; omega))) | with_reducible refine Below.drew ?_ | with_reducible refine below_drewN ?_ _ | (with_reducible refine below_step (by assumption) ?side ?_; case side => (first | omega | (with_reducible exact Below.size (by assumption)) | (simp; done) | (simp; omega))))
  have m3 : w1.heap.size < w3.heap.size := by omega
  have n3 : w1.heap.size + 1 < w3.heap.size := by omega
  clear hc3 hf3 hb3 p2 r2 t2 b2
  go_wp2_with fail
  refine (Lost_c A0 A1 3 c0 4 c1 0 exPl exLs _ (by omega) (by omega) (H1.out.later (by (repeat first | with_reducible assumption | with_reducible exact Below.refl _ _ | (with_reducible refine Below.alloc ?_ ?side _; case side => (first | omega | (with_reducible exact Below.size (by assumption)) | (simp; done) | (simp; omega))) | (with_reducible refine Below.setCell ?_ ?side _; case side => (first | omega | (with_reducible exact Below.size (by assumption)) | (simp; done) | (simp; omega))) | with_reducible refine Below.drew ?_ | with_reducible refine below_drewN ?_ _ | (with_reducible refine below_step (by assumption) ?side ?_; case side => (first | omega | (with_reducible exact Below.size (by assumption)) | (simp; done) | (simp; omega)))))) (H2.out.later (by (repeat first | with_reducible assumption | with_reducible exact Below.refl _ _ | (with_reducible refine Below.alloc ?_ ?side _; case side => (first | omega | (with_reducible exact Below.size (by assumption)) | (simp; done) | (simp; omega))) | (with_reducible refine Below.setCell ?_ ?side _; case side => (first | omega | (with_reducible exact Below.size (by assumption)) | (simp; done) | (simp; omega))) | with_reducible refine Below.drew ?_ | with_reducible refine below_drewN ?_ _ | (with_reducible refine below_step (by assumption) ?side ?_; case side => (first | omega | (with_reducible exact Below.size (by assumption)) | (simp; done) | (simp; omega))))))).mono ?_
  rw [ev_a2]
  rintro e w4 ⟨rfl, hb4⟩
  obtain ⟨hc4, hf4⟩ := bcell hb4
  have zs4 := hb4.size
  (try simp at zs4)
  have p4 := fun i => (hc4 w1.heap.size i (by first | omega | (simp; done) | (simp; omega))).trans ((World.cell?_alloc_lt _ _ ⟨w1.heap.size, i, none⟩ (by omega)).trans (p3 i))
  have r4 := fun i => (hc4 (w1.heap.size + 1) i (by first | omega | (simp; done) | (simp; omega))).trans ((World.cell?_alloc_lt _ _ ⟨w1.heap.size + 1, i, none⟩ (by omega)).trans (r3 i))
  have t4 := fun i => (hf4 (w1.heap.size + 1) i (by first | omega | (simp; done) | (simp; omega))).trans (show _ = false by simp only [frozen?_alloc_cells]; exact t3 i)
  have b4 : Below w1.heap.size w1 w4 := by (repeat first | with_reducible assumption | with_reducible exact Below.refl _ _ | (with_reducible refine Below.alloc ?_ ?side _; case side => (first | omega | (with_reducible exact Below.size (by assumption)) | (simp; done) | (simp; omega))) | (with_reducible refine Below.setCell ?_ ?side _; case side => (first | omega | (with_reducible exact Below.size (by assumption)) | (simp; done) | (simp; omega))) | with_reducible refine Below.drew ?_ | with_reducible refine below_drewN ?_ _ | (with_reducible refine below_step (by assumption) ?side ?_; case side => (first | omega | (with_reducible exact Below.size (by assumption)) | (simp; done) | (simp; omega))))
  have m4 : w1.heap.size < w4.heap.size := by omega
  have n4 : w1.heap.size + 1 < w4.heap.size := by omega
  have hb4x := hb4
  clear hc4 hf4 hb4
  have q4 := fun i => (hb4x.cell (p := ⟨w3.heap.size, i, none⟩) (by first | omega | (simp; done) | (simp; omega))).trans ((al1_0 rfl).2.1 i)
  clear p3 r3 t3 b3
  go_wp2_with fail
  refine (Line_c A2 A3 3 c2 5 c3 1 4 exPl exLc _ (by omega) (by omega) (H3.out.later (by (repeat first | with_reducible assumption | with_reducible exact Below.refl _ _ | (with_reducible refine Below.alloc ?_ ?side _; case side => (first | omega | (with_reducible exact Below.size (by assumption)) | (simp; done) | (simp; omega))) | (with_reducible refine Below.setCell ?_ ?side _; case side => (first | omega | (with_reducible exact Below.size (by assumption)) | (simp; done) | (simp; omega))) | with_reducible refine Below.drew ?_ | with_reducible refine below_drewN ?_ _ | (with_reducible refine below_step (by assumption) ?side ?_; case side => (first | omega | (with_reducible exact Below.size (by assumption)) | (simp; done) | (simp; omega)))))) (H4.out.later (by (repeat first | with_reducible assumption | with_reducible exact Below.refl _ _ | (with_reducible refine Below.alloc ?_ ?side _; case side => (first | omega | (with_reducible exact Below.size (by assumption)) | (simp; done) | (simp; omega))) | (with_reducible refine Below.setCell ?_ ?side _; case side => (first | omega | (with_reducible exact Below.size (by assumption)) | (simp; done) | (simp; omega))) | with_reducible refine Below.drew ?_ | with_reducible refine below_drewN ?_ _ | (with_reducible refine below_step (by assumption) ?side ?_; case side => (first | omega | (with_reducible exact Below.size (by assumption)) | (simp; done) | (simp; omega))))))).mono ?_
  rw [ev_a3]
  rintro e w5 ⟨rfl, hb5⟩
  obtain ⟨hc5, hf5⟩ := bcell hb5
  have zs5 := hb5.size
  simp only [World.size_alloc, World.size_setCell] at zs5
  have q5 := fun i => (hc5 w3.heap.size i (by first | omega | (simp; done) | (simp; omega))).trans ((World.cell?_alloc_lt _ _ ⟨w3.heap.size, i, none⟩ (by first | (simp; done) | (simp; omega))).trans ((World.cell?_setCell_other _ _ _ _ (by first | (simp; done) | (simp; omega))).trans (q4 i)))
  have u5 : ∀ i, w5.cell? ⟨w4.heap.size, i, none⟩ = #[Value.int .i64 3, .int .i64 5][i]? := fun i => (hc5 w4.heap.size i (by first | omega | (simp; done) | (simp; omega))).trans (by simpa using World.cell?_alloc_new (w4.setCell ⟨w1.heap.size + 1, 2, none⟩ (.int .i64 1)) #[Value.int .i64 3, .int .i64 5] 29 i)
  have r5a := (hc5 (w1.heap.size + 1) 0 (by first | omega | (simp; done) | (simp; omega))).trans ((World.cell?_alloc_lt _ _ ⟨w1.heap.size + 1, 0, none⟩ (by first | (simp; done) | (simp; omega))).trans ((World.cell?_setCell_other _ _ _ _ (by simp)).trans (r4 0)))
  have r5b := (hc5 (w1.heap.size + 1) 1 (by first | omega | (simp; done) | (simp; omega))).trans ((World.cell?_alloc_lt _ _ ⟨w1.heap.size + 1, 1, none⟩ (by first | (simp; done) | (simp; omega))).trans ((World.cell?_setCell_other _ _ _ _ (by simp)).trans (r4 1)))
  have r5c := (hc5 (w1.heap.size + 1) 2 (by first | omega | (simp; done) | (simp; omega))).trans ((World.cell?_alloc_lt _ _ ⟨w1.heap.size + 1, 2, none⟩ (by first | (simp; done) | (simp; omega))).trans (World.cell?_setCell_same _ _ (.int .i64 1) (r4 2)))
  have b5 : Below w1.heap.size w1 w5 := by (repeat first | with_reducible assumption | with_reducible exact Below.refl _ _ | (with_reducible refine Below.alloc ?_ ?side _; case side => (first | omega | (with_reducible exact Below.size (by assumption)) | (simp; done) | (simp; omega))) | (with_reducible refine Below.setCell ?_ ?side _; case side => (first | omega | (with_reducible exact Below.size (by assumption)) | (simp; done) | (simp; omega))) | with_reducible refine Below.drew ?_ | with_reducible refine below_drewN ?_ _ | (with_reducible refine below_step (by assumption) ?side ?_; case side => (first | omega | (with_reducible exact Below.size (by assumption)) | (simp; done) | (simp; omega))))
  have m5 : w1.heap.size < w5.heap.size := by omega
  have n5 : w1.heap.size + 1 < w5.heap.size := by omega
  have k5 : w3.heap.size < w5.heap.size := by omega
  have l5 : w4.heap.size < w5.heap.size := by omega
  clear hc5 hf5 hb5 p4 r4 t4 q4 hb4x b4
  go_wp2_with fail
  refine (Strange_c A2 A3 3 c2 5 c3 1 exPl exLc _ (by omega) (by omega) (H3.out.later (by (repeat first | with_reducible assumption | with_reducible exact Below.refl _ _ | (with_reducible refine Below.alloc ?_ ?side _; case side => (first | omega | (with_reducible exact Below.size (by assumption)) | (simp; done) | (simp; omega))) | (with_reducible refine Below.setCell ?_ ?side _; case side => (first | omega | (with_reducible exact Below.size (by assumption)) | (simp; done) | (simp; omega))) | with_reducible refine Below.drew ?_ | with_reducible refine below_drewN ?_ _ | (with_reducible refine below_step (by assumption) ?side ?_; case side => (first | omega | (with_reducible exact Below.size (by assumption)) | (simp; done) | (simp; omega)))))) (H4.out.later (by (repeat first | with_reducible assumption | with_reducible exact Below.refl _ _ | (with_reducible refine Below.alloc ?_ ?side _; case side => (first | omega | (with_reducible exact Below.size (by assumption)) | (simp; done) | (simp; omega))) | (with_reducible refine Below.setCell ?_ ?side _; case side => (first | omega | (with_reducible exact Below.size (by assumption)) | (simp; done) | (simp; omega))) | with_reducible refine Below.drew ?_ | with_reducible refine below_drewN ?_ _ | (with_reducible refine below_step (by assumption) ?side ?_; case side => (first | omega | (with_reducible exact Below.size (by assumption)) | (simp; done) | (simp; omega))))))).mono ?_
  rw [ev_strC]
  rintro e w6 ⟨hb6, (⟨hne, -⟩ | ⟨-, A, c, rfl, hI⟩)⟩
  · exact absurd ev_askC hne
  have HI := Lib.hid hI
  obtain ⟨hc6, hf6⟩ := bcell hb6
  have zs6 := hb6.size
  simp only [World.size_alloc] at zs6
  have q6 := fun i => (hc6 w3.heap.size i (by first | omega | (simp; done) | (simp; omega))).trans ((World.cell?_alloc_lt _ _ ⟨w3.heap.size, i, none⟩ k5).trans (q5 i))
  have u6 := fun i => (hc6 w4.heap.size i (by first | omega | (simp; done) | (simp; omega))).trans ((World.cell?_alloc_lt _ _ ⟨w4.heap.size, i, none⟩ l5).trans (u5 i))
  have v6 := fun i => (hc6 w5.heap.size i (by first | omega | (simp; done) | (simp; omega))).trans ((al1_0 rfl).2.1 i)
  have b6 : Below w1.heap.size w1 w6 := by (repeat first | with_reducible assumption | with_reducible exact Below.refl _ _ | (with_reducible refine Below.alloc ?_ ?side _; case side => (first | omega | (with_reducible exact Below.size (by assumption)) | (simp; done) | (simp; omega))) | (with_reducible refine Below.setCell ?_ ?side _; case side => (first | omega | (with_reducible exact Below.size (by assumption)) | (simp; done) | (simp; omega))) | with_reducible refine Below.drew ?_ | with_reducible refine below_drewN ?_ _ | (with_reducible refine below_step (by assumption) ?side ?_; case side => (first | omega | (with_reducible exact Below.size (by assumption)) | (simp; done) | (simp; omega))))
  clear hc6 hf6 hb6 q5 u5 r5a r5b r5c hI b5
  go_wp2_with fail
  refine (SameInts_c_q11 A (some ⟨w6.heap.size, 0, none⟩) 1 1 c 1 [4] [4] _ (by omega) (by omega) (HI.out.later (by (repeat first | with_reducible assumption | with_reducible exact Below.refl _ _ | (with_reducible refine Below.alloc ?_ ?side _; case side => (first | omega | (with_reducible exact Below.size (by assumption)) | (simp; done) | (simp; omega))) | (with_reducible refine Below.setCell ?_ ?side _; case side => (first | omega | (with_reducible exact Below.size (by assumption)) | (simp; done) | (simp; omega))) | with_reducible refine Below.drew ?_ | with_reducible refine below_drewN ?_ _ | (with_reducible refine below_step (by assumption) ?side ?_; case side => (first | omega | (with_reducible exact Below.size (by assumption)) | (simp; done) | (simp; omega)))))) (ints_iff.2 (sl_new encI_len rfl rfl rfl))).mono ?_
  rw [ev_same]
  rintro e w7 ⟨rfl, hb7⟩
  go_wp2
  go_ret
  refine ⟨rfl, ?_⟩
  have zz := hb1.size
  refine hb1.trans (Below.mono ?_ zz)
  exact (b6.trans (((Below.refl _ _).alloc b6.size _).trans (hb7.mono (by simp; have := b6.size; omega))))

end Go.Proofs.Ytdhlnlmhdacblaa
