/- works of the statements (layer 1): the chapter's examples. -/
import Derived.Test.YtmopnbijfcamjaaEx1
import Derived.Test.YtmopnbijfcamjaaMn1
import Derived.Test.YtmopnbijfcamjaaOf1
import Derived.Test.YtmopnbijfcamjaaRst1
import Derived.Test.YtmopnbijfcamjaaAl1
import Derived.Test.YtmopnbijfcamjaaHt1
import Derived.Test.YtmopnbijfcamjaaRi1
namespace Go.Proofs.Ytmopnbijfcamjaa
open Go.RowKit
open Go.Sort (grow)
set_option linter.unusedVariables false

theorem ev_same1 : (2 == 2 && allN 2 fun k => iAt [0, 2] k == iAt [0, 2] k) = true := by decide
theorem ex_h3 : ∀ k, k < 3 → (pcAt exP k).hs.length ≤ 40 := by
  intro k hk
  match k, hk with
  | 0, _ => decide
  | 1, _ => decide
  | 2, _ => decide
set_option maxRecDepth 100000 in
set_option maxHeartbeats 3200000 in
theorem works_c (w : World) :
    Calls Try.prog 15 #[] w fun e w' => e = .returned (.bool true) ∧ Below w.heap.size w w' := by
  have c1 : ∀ (A1 A2 : Option Addr) (ms : List Pm) (W : World), BrsAt W A1 3 exB → PcsAt W A2 3 ms exP → Calls Try.prog 17 #[.agg #[.slice A1 3 3, .int .i64 5, .slice A2 3 3, .int .i64 0]] W fun e W' => e = .returned (.tuple #[.int .i64 5, .int .i64 0]) ∧ Below W.heap.size W W' := fun A1 A2 ms W h1 h2 => by
    have := many_c A1 A2 3 3 3 3 5 0 exB ms exP W (by omega) (by omega) ex_h3 h1 h2
    rw [ev_many, ev_ask true rfl] at this
    exact this
  have c2 : ∀ (A1 A2 : Option Addr) (ms : List Pm) (W : World), BrsAt W A1 3 exB → PcsAt W A2 3 ms exP → Calls Try.prog 19 #[.agg #[.slice A1 3 3, .int .i64 5, .slice A2 3 3, .int .i64 0], .int .i64 1] W fun e W' => ∃ B c, e = .returned (.tuple #[.slice B 2 c, .int .i64 0]) ∧ IntsAt W' B 2 [0, 2] ∧ Below W.heap.size W W' := fun A1 A2 ms W h1 h2 => by
    have := of_c A1 A2 3 3 3 3 5 0 1 exB ms exP W (by omega) (by omega) ex_h3 h1 h2
    rw [ev_of, ev_ask _ (by decide)] at this
    refine this.mono fun e W' => ?_
    rintro ⟨v, rfl, ho, hb⟩
    obtain ⟨A, c, rfl, -, hs⟩ := SlAt.of_own (d := (0 : Int)) encI_len ho rfl
    exact ⟨A, c, rfl, ints_iff.2 hs, hb⟩
  have c3 : ∀ (A1 A2 : Option Addr) (ms : List Pm) (W : World), BrsAt W A1 3 exB → PcsAt W A2 3 ms exP → Calls Try.prog 31 #[.agg #[.slice A1 3 3, .int .i64 5, .slice A2 3 3, .int .i64 0], .int .i64 0] W fun e W' => e = .returned (.tuple #[.agg #[.int .i64 0, .int .i64 60], .int .i64 0]) ∧ Below W.heap.size W W' := fun A1 A2 ms W h1 h2 => by
    have := rest_c A1 A2 3 3 3 3 5 0 0 exB ms exP W (by omega) (by omega) ex_h3 h1 h2
    rw [ev_rest] at this
    exact this
  have c4 : ∀ (A1 A2 : Option Addr) (ms : List Pm) (W : World), BrsAt W A1 3 exB → PcsAt W A2 3 ms exP → Calls Try.prog 21 #[.agg #[.slice A1 3 3, .int .i64 5, .slice A2 3 3, .int .i64 0], .int .i64 50] W fun e W' => e = .returned (.tuple #[.int .i64 3, .int .i64 0]) ∧ Below W.heap.size W W' := fun A1 A2 ms W h1 h2 => by
    have := room_c A1 A2 3 3 3 3 5 0 50 exB ms exP W (by omega) (by omega) ex_h3 h1 h2
    rw [ev_room] at this
    exact this
  have c5 : ∀ (A1 A2 : Option Addr) (ms : List Pm) (W : World), BrsAt W A1 3 exB → PcsAt W A2 3 ms exP → Calls Try.prog 23 #[.agg #[.slice A1 3 3, .int .i64 5, .slice A2 3 3, .int .i64 0]] W fun e W' => e = .returned (.tuple #[.int .i64 2, .int .i64 0]) ∧ Below W.heap.size W W' := fun A1 A2 ms W h1 h2 => by
    have := least_c A1 A2 3 3 3 3 5 0 exB ms exP W (by omega) (by omega) ex_h3 h1 h2
    rw [ev_least, ev_ask true rfl] at this
    exact this
  replace c1 := Lib.hid c1
  replace c2 := Lib.hid c2
  replace c3 := Lib.hid c3
  replace c4 := Lib.hid c4
  replace c5 := Lib.hid c5
  go_enter Try.func15, Try.ntmps15
  go_wp2_with fail
  refine (Example_c _).mono ?_
  rintro e w1 ⟨A1, A2, ms, rfl, h1, h2, hb1⟩
  have H1 := Lib.hid h1
  have H2 := Lib.hid h2
  clear h1 h2
  go_wp2_with fail
  refine (c1.out _ _ ms _ (H1.out.later (by (repeat first | with_reducible assumption | with_reducible exact Below.refl _ _ | (with_reducible refine Below.alloc ?_ ?side _; case side => (first | omega | (with_reducible exact Below.size (by assumption)) | (simp; done) | (simp; omega))) | (with_reducible refine Below.setCell ?_ ?side _; case side => (first | omega | (with_reducible exact Below.size (by assumption)) | (simp; done) | (simp; omega))) | with_reducible refine Below.drew ?_ | with_reducible refine below_drewN ?_ _ | (with_reducible refine below_step (by assumption) ?side ?_; case side => (first | omega | (with_reducible exact Below.size (by assumption)) | (simp; done) | (simp; omega)))))) (H2.out.later (by (repeat first | with_reducible assumption | with_reducible exact Below.refl _ _ | (with_reducible refine Below.alloc ?_ ?side _; case side => (first | omega | (with_reducible exact Below.size (by assumption)) | (simp; done) | (simp; omega))) | (with_reducible refine Below.setCell ?_ ?side _; case side => (first | omega | (with_reducible exact Below.size (by assumption)) | (simp; done) | (simp; omega))) | with_reducible refine Below.drew ?_ | with_reducible refine below_drewN ?_ _ | (with_reducible refine below_step (by assumption) ?side ?_; case side => (first | omega | (with_reducible exact Below.size (by assumption)) | (simp; done) | (simp; omega))))))).mono ?_
  rintro e w2 ⟨rfl, hb2⟩
  have zs2 := hb2.size
  simp only [World.size_alloc] at zs2
  have p2 := fun i => (hb2.cell (p := ⟨w1.heap.size, i, none⟩) (by simp)).trans ((al1_0 rfl).2.1 i)
  have b2 : Below w1.heap.size w1 w2 := ((Below.refl _ _).alloc (Nat.le_refl _) _).trans (hb2.mono (by simp))
  have m2 : w1.heap.size < w2.heap.size := by omega
  clear hb2
  go_wp2_with fail
  refine (c2.out _ _ ms _ (H1.out.later b2) (H2.out.later b2)).mono ?_
  rintro e w3 ⟨B, cB, rfl, hi, hb3⟩
  have HI := Lib.hid hi
  have zs3 := hb3.size
  have p3 := fun i => (hb3.cell (p := ⟨w1.heap.size, i, none⟩) m2).trans (p2 i)
  have b3 : Below w1.heap.size w1 w3 := b2.trans (hb3.mono (by omega))
  have m3 : w1.heap.size < w3.heap.size := by omega
  clear hb3 hi p2 b2 m2 zs2
  go_wp2_with fail
  refine (c3.out _ _ ms _ (H1.out.later b3) (H2.out.later b3)).mono ?_
  rintro e w4 ⟨rfl, hb4⟩
  have zs4 := hb4.size
  have p4 := fun i => (hb4.cell (p := ⟨w1.heap.size, i, none⟩) m3).trans (p3 i)
  have b4 : Below w1.heap.size w1 w4 := b3.trans (hb4.mono (by omega))
  have m4 : w1.heap.size < w4.heap.size := by omega
  have HI4 : Hid (IntsAt w4 B 2 [0, 2]) := Lib.hid (HI.out.later hb4)
  clear hb4 p3 b3 m3 zs3 HI
  go_wp2_with fail
  refine (c4.out _ _ ms _ (H1.out.later (by (repeat first | with_reducible assumption | with_reducible exact Below.refl _ _ | (with_reducible refine Below.alloc ?_ ?side _; case side => (first | omega | (with_reducible exact Below.size (by assumption)) | (simp; done) | (simp; omega))) | (with_reducible refine Below.setCell ?_ ?side _; case side => (first | omega | (with_reducible exact Below.size (by assumption)) | (simp; done) | (simp; omega))) | with_reducible refine Below.drew ?_ | with_reducible refine below_drewN ?_ _ | (with_reducible refine below_step (by assumption) ?side ?_; case side => (first | omega | (with_reducible exact Below.size (by assumption)) | (simp; done) | (simp; omega)))))) (H2.out.later (by (repeat first | with_reducible assumption | with_reducible exact Below.refl _ _ | (with_reducible refine Below.alloc ?_ ?side _; case side => (first | omega | (with_reducible exact Below.size (by assumption)) | (simp; done) | (simp; omega))) | (with_reducible refine Below.setCell ?_ ?side _; case side => (first | omega | (with_reducible exact Below.size (by assumption)) | (simp; done) | (simp; omega))) | with_reducible refine Below.drew ?_ | with_reducible refine below_drewN ?_ _ | (with_reducible refine below_step (by assumption) ?side ?_; case side => (first | omega | (with_reducible exact Below.size (by assumption)) | (simp; done) | (simp; omega))))))).mono ?_
  rintro e w5 ⟨rfl, hb5⟩
  have zs5 := hb5.size
  simp only [World.size_alloc] at zs5
  have hb45 : Below w4.heap.size w4 w5 := ((Below.refl _ _).alloc (Nat.le_refl _) _).trans (hb5.mono (by simp))
  have q5 := fun i => (hb5.cell (p := ⟨w4.heap.size, i, none⟩) (by simp)).trans ((al1_0 rfl).2.1 i)
  have p5 := fun i => (hb45.cell (p := ⟨w1.heap.size, i, none⟩) m4).trans (p4 i)
  have b5 : Below w1.heap.size w1 w5 := b4.trans (hb45.mono (by omega))
  have m5 : w1.heap.size < w5.heap.size := by omega
  have n5 : w4.heap.size < w5.heap.size := by omega
  have HI5 : Hid (IntsAt w5 B 2 [0, 2]) := Lib.hid (HI4.out.later hb45)
  clear hb5 p4 b4 m4 zs4 HI4 hb45
  go_wp2_with fail
  refine (c5.out _ _ ms _ (H1.out.later b5) (H2.out.later b5)).mono ?_
  rintro e w6 ⟨rfl, hb6⟩
  have zs6 := hb6.size
  have q6 := fun i => (hb6.cell (p := ⟨w4.heap.size, i, none⟩) n5).trans (q5 i)
  have b6 : Below w1.heap.size w1 w6 := b5.trans (hb6.mono (by omega))
  have n6 : w4.heap.size < w6.heap.size := by omega
  have HI6 : Hid (IntsAt w6 B 2 [0, 2]) := Lib.hid (HI5.out.later hb6)
  clear hb6 p5 q5 b5 m5 HI5
  go_wp2_with fail
  refine (SameInts_c B (some ⟨w6.heap.size, 0, none⟩) 2 2 cB 2 [0, 2] [0, 2] _ (by omega) (by omega) (HI6.out.later (by (repeat first | with_reducible assumption | with_reducible exact Below.refl _ _ | (with_reducible refine Below.alloc ?_ ?side _; case side => (first | omega | (with_reducible exact Below.size (by assumption)) | (simp; done) | (simp; omega))) | (with_reducible refine Below.setCell ?_ ?side _; case side => (first | omega | (with_reducible exact Below.size (by assumption)) | (simp; done) | (simp; omega))) | with_reducible refine Below.drew ?_ | with_reducible refine below_drewN ?_ _ | (with_reducible refine below_step (by assumption) ?side ?_; case side => (first | omega | (with_reducible exact Below.size (by assumption)) | (simp; done) | (simp; omega)))))) (ints_iff.2 (sl_new encI_len rfl rfl rfl))).mono ?_
  rw [ev_same1]
  rintro e w7 ⟨rfl, hb7⟩
  have q7 := fun i => (hb7.cell (p := ⟨w4.heap.size, i, none⟩) (by simp; omega)).trans ((World.cell?_alloc_lt w6 (.cells #[.int .i64 0, .int .i64 2] 3) ⟨w4.heap.size, i, none⟩ n6).trans (q6 i))
  go_wp2
  go_ret
  refine ⟨rfl, hb1.trans (Below.mono ?_ hb1.size)⟩
  exact b6.trans (((Below.refl _ _).alloc b6.size _).trans (hb7.mono (by simp; have := b6.size; omega)))

end Go.Proofs.Ytmopnbijfcamjaa
