/- works of the statements (layer 7): the chapter's examples. -/
import Derived.Test.YthjjakhmbgnnnaaEx7
import Derived.Test.YthjjakhmbgnnnaaRi1
namespace Go.Proofs.Ythjjakhmbgnnnaa
open Go.RowKit
open Go.Sort (grow)
set_option linter.unusedVariables false

theorem ev_same7 : (2 == 2 && allN 2 fun k => iAt [1, 3] k == iAt [1, 3] k) = true := by decide
set_option maxRecDepth 100000 in
set_option maxHeartbeats 3200000 in
theorem works_c (w : World) :
    Calls Try.prog 14 #[] w fun e w' => e = .returned (.bool true) ∧ Below w.heap.size w w' := by
  have hq : CbOk exQ7 := by unfold CbOk exQ7; decide
  have c1 : ∀ (A : Option Addr) (W : World), SpsAt W A 7 exL7 → Calls Try.prog 17 #[.agg #[.slice A 7 7, .int .i64 40, .int .i64 1, .int .i64 0, .int .i64 2, .int .i64 1]] W fun e W' => e = .returned (.tuple #[.int .i64 2, .int .i64 0]) ∧ Below W.heap.size W W' := fun A W h => by
    have := fewest_c A 7 7 exQ7 exL7 W (by omega) hq h
    rw [ev_pl, ev_er] at this
    exact this
  have c2 : ∀ (A : Option Addr) (W : World), SpsAt W A 7 exL7 → Calls Try.prog 37 #[.agg #[.slice A 7 7, .int .i64 40, .int .i64 1, .int .i64 0, .int .i64 2, .int .i64 1]] W fun e W' => ∃ B c, e = .returned (.tuple #[.slice B 2 c, .int .i64 0]) ∧ IntsAt W' B 2 [1, 3] ∧ Below W.heap.size W W' := fun A W h => by
    have := Must_c A 7 7 exQ7 exL7 W (by omega) hq h
    rw [ev_mu, ev_er] at this
    exact this
  have c3 : ∀ (A : Option Addr) (W : World), SpsAt W A 7 exL7 → Calls Try.prog 18 #[.agg #[.slice A 7 7, .int .i64 40, .int .i64 1, .int .i64 0, .int .i64 2, .int .i64 1], .int .i64 1, .int .i64 5] W fun e W' => e = .returned (.tuple #[.int .i64 4, .int .i64 0]) ∧ Below W.heap.size W W' := fun A W h => by
    have := cheapest_c A 7 7 exQ7 1 5 exL7 W (by omega) hq h
    rw [ev_ch] at this
    exact this
  have c4 : ∀ (A : Option Addr) (W : World), SpsAt W A 7 exL7 → Calls Try.prog 19 #[.agg #[.slice A 7 7, .int .i64 40, .int .i64 1, .int .i64 0, .int .i64 2, .int .i64 1], .int .i64 2] W fun e W' => e = .returned (.tuple #[.int .i64 50, .int .i64 0]) ∧ Below W.heap.size W W' := fun A W h => by
    have := strong_c A 7 7 exQ7 2 exL7 W (by omega) hq h
    rw [ev_sr] at this
    exact this
  have c5 : ∀ (A B : Option Addr) (W : World), SpsAt W A 7 exL7 → IntsAt W B 2 [1, 3] → Calls Try.prog 33 #[.agg #[.slice A 7 7, .int .i64 40, .int .i64 1, .int .i64 0, .int .i64 2, .int .i64 1], .slice B 2 2] W fun e W' => e = .returned (.tuple #[.int .i64 2, .int .i64 0]) ∧ Below W.heap.size W W' := fun A B W h h2 => by
    have := Shackles_c A B 7 7 2 2 exQ7 exL7 [1, 3] W (by omega) (by omega) hq h h2
    rw [ev_gs, ev_ge] at this
    exact this
  replace c1 := Lib.hid c1
  replace c2 := Lib.hid c2
  replace c3 := Lib.hid c3
  replace c4 := Lib.hid c4
  replace c5 := Lib.hid c5
  clear hq
  go_enter Try.func14, Try.ntmps14
  go_wp2_with fail
  refine (Example_c _).mono ?_
  rintro e w1 ⟨A, rfl, h1, hb1⟩
  have H1 := Lib.hid h1
  clear h1
  go_wp2_with fail
  refine (c1.out _ _ (H1.out.later (by (repeat first | with_reducible assumption | with_reducible exact Below.refl _ _ | (with_reducible refine Below.alloc ?_ ?side _; case side => (first | omega | (with_reducible exact Below.size (by assumption)) | (simp; done) | (simp; omega))) | (with_reducible refine Below.setCell ?_ ?side _; case side => (first | omega | (with_reducible exact Below.size (by assumption)) | (simp; done) | (simp; omega))) | with_reducible refine Below.drew ?_ | with_reducible refine below_drewN ?_ _ | (with_reducible refine below_step (by assumption) ?side ?_; case side => (first | omega | (with_reducible exact Below.size (by assumption)) | (simp; done) | (simp; omega))))))).mono ?_
  rintro e w2 ⟨rfl, hb2⟩
  have zs2 := hb2.size
  simp only [World.size_alloc] at zs2
  have p2 := fun i => (hb2.cell (p := ⟨w1.heap.size, i, none⟩) (by simp)).trans ((al1_0 rfl).2.1 i)
  have b2 : Below w1.heap.size w1 w2 := ((Below.refl _ _).alloc (Nat.le_refl _) _).trans (hb2.mono (by simp))
  have m2 : w1.heap.size < w2.heap.size := by omega
  clear hb2
  go_wp2_with fail
  refine (c2.out _ _ (H1.out.later (by (repeat first | with_reducible assumption | with_reducible exact Below.refl _ _ | (with_reducible refine Below.alloc ?_ ?side _; case side => (first | omega | (with_reducible exact Below.size (by assumption)) | (simp; done) | (simp; omega))) | (with_reducible refine Below.setCell ?_ ?side _; case side => (first | omega | (with_reducible exact Below.size (by assumption)) | (simp; done) | (simp; omega))) | with_reducible refine Below.drew ?_ | with_reducible refine below_drewN ?_ _ | (with_reducible refine below_step (by assumption) ?side ?_; case side => (first | omega | (with_reducible exact Below.size (by assumption)) | (simp; done) | (simp; omega))))))).mono ?_
  rintro e w3 ⟨B, cB, rfl, hi, hb3⟩
  have HI := Lib.hid hi
  have zs3 := hb3.size
  have p3 := fun i => (hb3.cell (p := ⟨w1.heap.size, i, none⟩) m2).trans (p2 i)
  have b3 : Below w1.heap.size w1 w3 := b2.trans (hb3.mono (by omega))
  have m3 : w1.heap.size < w3.heap.size := by omega
  clear hb3 hi p2 b2 m2 zs2
  go_wp2_with fail
  refine (c3.out _ _ (H1.out.later (by (repeat first | with_reducible assumption | with_reducible exact Below.refl _ _ | (with_reducible refine Below.alloc ?_ ?side _; case side => (first | omega | (with_reducible exact Below.size (by assumption)) | (simp; done) | (simp; omega))) | (with_reducible refine Below.setCell ?_ ?side _; case side => (first | omega | (with_reducible exact Below.size (by assumption)) | (simp; done) | (simp; omega))) | with_reducible refine Below.drew ?_ | with_reducible refine below_drewN ?_ _ | (with_reducible refine below_step (by assumption) ?side ?_; case side => (first | omega | (with_reducible exact Below.size (by assumption)) | (simp; done) | (simp; omega))))))).mono ?_
  rintro e w4 ⟨rfl, hb4⟩
  have zs4 := hb4.size
  have p4 := fun i => (hb4.cell (p := ⟨w1.heap.size, i, none⟩) m3).trans (p3 i)
  have b4 : Below w1.heap.size w1 w4 := b3.trans (hb4.mono (by omega))
  have m4 : w1.heap.size < w4.heap.size := by omega
  have HI4 : Hid (IntsAt w4 B 2 [1, 3]) := Lib.hid (HI.out.later hb4)
  clear hb4 p3 b3 m3 zs3 HI
  go_wp2_with fail
  refine (c4.out _ _ (H1.out.later (by (repeat first | with_reducible assumption | with_reducible exact Below.refl _ _ | (with_reducible refine Below.alloc ?_ ?side _; case side => (first | omega | (with_reducible exact Below.size (by assumption)) | (simp; done) | (simp; omega))) | (with_reducible refine Below.setCell ?_ ?side _; case side => (first | omega | (with_reducible exact Below.size (by assumption)) | (simp; done) | (simp; omega))) | with_reducible refine Below.drew ?_ | with_reducible refine below_drewN ?_ _ | (with_reducible refine below_step (by assumption) ?side ?_; case side => (first | omega | (with_reducible exact Below.size (by assumption)) | (simp; done) | (simp; omega))))))).mono ?_
  rintro e w5 ⟨rfl, hb5⟩
  have zs5 := hb5.size
  have p5 := fun i => (hb5.cell (p := ⟨w1.heap.size, i, none⟩) m4).trans (p4 i)
  have b5 : Below w1.heap.size w1 w5 := b4.trans (hb5.mono (by omega))
  have m5 : w1.heap.size < w5.heap.size := by omega
  have HI5 : Hid (IntsAt w5 B 2 [1, 3]) := Lib.hid (HI4.out.later hb5)
  clear hb5 p4 b4 m4 zs4 HI4
  go_wp2_with fail
  refine (c5.out _ _ _ (H1.out.later (by (repeat first | with_reducible assumption | with_reducible exact Below.refl _ _ | (with_reducible refine Below.alloc ?_ ?side _; case side => (first | omega | (with_reducible exact Below.size (by assumption)) | (simp; done) | (simp; omega))) | (with_reducible refine Below.setCell ?_ ?side _; case side => (first | omega | (with_reducible exact Below.size (by assumption)) | (simp; done) | (simp; omega))) | with_reducible refine Below.drew ?_ | with_reducible refine below_drewN ?_ _ | (with_reducible refine below_step (by assumption) ?side ?_; case side => (first | omega | (with_reducible exact Below.size (by assumption)) | (simp; done) | (simp; omega)))))) (ints_iff.2 (sl_new encI_len rfl rfl rfl))).mono ?_
  rintro e w6 ⟨rfl, hb6⟩
  have zs6 := hb6.size
  simp only [World.size_alloc] at zs6
  have b6 : Below w1.heap.size w1 w6 := (b5.alloc b5.size _).trans (hb6.mono (by simp; omega))
  have HI6 : Hid (IntsAt w6 B 2 [1, 3]) := Lib.hid (HI5.out.later (((Below.refl _ _).alloc (Nat.le_refl _) _).trans (hb6.mono (by simp))))
  clear hb6 p5 b5 m5 HI5
  go_wp2_with fail
  refine (SameInts_c B (some ⟨w6.heap.size, 0, none⟩) 2 2 cB 2 [1, 3] [1, 3] _ (by omega) (by omega) (HI6.out.later (by (repeat first | with_reducible assumption | with_reducible exact Below.refl _ _ | (with_reducible refine Below.alloc ?_ ?side _; case side => (first | omega | (with_reducible exact Below.size (by assumption)) | (simp; done) | (simp; omega))) | (with_reducible refine Below.setCell ?_ ?side _; case side => (first | omega | (with_reducible exact Below.size (by assumption)) | (simp; done) | (simp; omega))) | with_reducible refine Below.drew ?_ | with_reducible refine below_drewN ?_ _ | (with_reducible refine below_step (by assumption) ?side ?_; case side => (first | omega | (with_reducible exact Below.size (by assumption)) | (simp; done) | (simp; omega)))))) (ints_iff.2 (sl_new encI_len rfl rfl rfl))).mono ?_
  rw [ev_same7]
  rintro e w7 ⟨rfl, hb7⟩
  go_wp2
  go_ret
  refine ⟨rfl, hb1.trans (Below.mono ?_ hb1.size)⟩
  exact b6.trans (((Below.refl _ _).alloc b6.size _).trans (hb7.mono (by simp; have := b6.size; omega)))

end Go.Proofs.Ythjjakhmbgnnnaa
