/- The chapter's example reckoned (layer 1). -/
import Derived.Test.YtmopnbijfcamjaaHt1
import Derived.Test.YtmopnbijfcamjaaAl1
import Derived.Test.YtmopnbijfcamjaaRst1
import Derived.Test.YtmopnbijfcamjaaSo1
import Derived.Test.YtmopnbijfcamjaaCs1
import Derived.Test.YtmopnbijfcamjaaMn1
import Derived.Test.YtmopnbijfcamjaaOf1
import Derived.Test.YtmopnbijfcamjaaRi1
namespace Go.Proofs.Ytmopnbijfcamjaa
open Go.RowKit
open Go.Sort (grow)
set_option linter.unusedVariables false

def exB : List Br := [⟨3, 100⟩, ⟨5, 60⟩, ⟨3, 45⟩]
def exP : List Pc := [⟨50, [3, 5]⟩, ⟨45, [3]⟩, ⟨40, [3, 8]⟩]
theorem ev_ask (is : Bool) (h : is = true) : askE exB exP 5 0 is = 0 := by subst h; kernel_rfl
theorem ev_many : manyR exB exP 5 0 = 5 := by kernel_rfl
theorem ev_of : ofP exB exP 5 0 1 = [0, 2] := by kernel_rfl
theorem ev_rest : restP exB exP 5 0 0 = (⟨0, 60⟩, 0) := by kernel_rfl
theorem ev_room : roomP exB exP 5 0 50 = (3, 0) := by kernel_rfl
theorem ev_plan : planP exB exP 5 0 = [0, 0, 2] := by kernel_rfl
theorem ev_least : leastP exB exP 5 0 = 2 := by
  have h : ∀ v ∈ planP exB exP 5 0, ∃ k : Nat, k < 3 ∧ v = (k : Int) := by
    rw [ev_plan]
    intro v hv
    simp at hv
    rcases hv with rfl | rfl
    · exact ⟨0, by omega, rfl⟩
    · exact ⟨2, by omega, rfl⟩
  unfold leastP
  show ((srtC (planP exB exP 5 0)).length : Int) = 2
  rw [srtC_upto h, uptoL_len, ev_plan]
  decide

theorem sl_cells {α : Type} {enc : α → List Value} {size : Nat} {d : α} (hs : ∀ x, (enc x).length = size) {w : World} {cs : Array Value} {ys : List α} {g m : Nat} (hg : g < w.heap.size) (hc : ∀ i, w.cell? ⟨g, i, none⟩ = cs[i]?) (hl : ys.length = m) (hcs : cs.toList = ys.flatMap enc) :
    SlAt enc size d w (some ⟨g, 0, none⟩) m ys := by
  refine ⟨hl, fun _ => ⟨g, 0, rfl, hg, fun k hk j u hu => ?_⟩⟩
  have hj : j < size := by
    have := (List.getElem?_eq_some_iff.1 hu).1
    rwa [hs] at this
  rw [hc, Nat.zero_add, ← Array.getElem?_toList, hcs, flat_get (d := d) hs ys k j hj (by omega)]
  exact hu
set_option maxRecDepth 100000 in
set_option maxHeartbeats 1600000 in
theorem Example_c (w : World) :
    Calls Try.prog 55 #[] w fun e w' => ∃ A1 A2 ms, e = .returned (.agg #[.slice A1 3 3, .int .i64 5, .slice A2 3 3, .int .i64 0]) ∧ BrsAt w' A1 3 exB ∧ PcsAt w' A2 3 ms exP ∧ Below w.heap.size w w' := by
  go_enter Try.func55, Try.ntmps55
  go_wp2_with fail
  obtain ⟨W, hW⟩ : ∃ W, (((((w.alloc (.cells #[.slice (some ⟨w.heap.size + 1, 0, none⟩) 3 3, .int .i64 5, .slice (some ⟨w.heap.size + 1 + 1 + 1 + 1 + 1, 0, none⟩) 3 3, .int .i64 0] 25)).alloc (.cells #[.int .i64 3, .int .i64 100, .int .i64 5, .int .i64 60, .int .i64 3, .int .i64 45] 60)).alloc (.cells #[.int .i64 3, .int .i64 5] 3)).alloc (.cells #[.int .i64 3] 3)).alloc (.cells #[.int .i64 3, .int .i64 8] 3)).alloc (.cells #[.int .i64 50, .slice (some ⟨w.heap.size + 1 + 1, 0, none⟩) 2 2, .int .i64 45, .slice (some ⟨w.heap.size + 1 + 1 + 1, 0, none⟩) 1 1, .int .i64 40, .slice (some ⟨w.heap.size + 1 + 1 + 1 + 1, 0, none⟩) 2 2] 34) = W := ⟨_, rfl⟩
  rw [hW]
  have BW : Below w.heap.size w W := (al6 hW).1
  have c0 := (al6_0 hW).2.1
  have s1 := (al6_1 hW)
  have s2 := (al6_2 hW)
  have s3 := (al6_3 hW)
  have s4 := (al6_4 hW)
  have s5 := (al6_5 hW)
  have i2 : IntsAt W (some ⟨w.heap.size + 1 + 1, 0, none⟩) 2 [3, 5] := ints_iff.2 (sl_cells encI_len s2.1 s2.2.1 rfl rfl)
  have i3 : IntsAt W (some ⟨w.heap.size + 1 + 1 + 1, 0, none⟩) 1 [3] := ints_iff.2 (sl_cells encI_len s3.1 s3.2.1 rfl rfl)
  have i4 : IntsAt W (some ⟨w.heap.size + 1 + 1 + 1 + 1, 0, none⟩) 2 [3, 8] := ints_iff.2 (sl_cells encI_len s4.1 s4.2.1 rfl rfl)
  have hp : PcsAt W (some ⟨w.heap.size + 1 + 1 + 1 + 1 + 1, 0, none⟩) 3 [⟨50, ⟨some ⟨w.heap.size + 1 + 1, 0, none⟩, 2, 2⟩⟩, ⟨45, ⟨some ⟨w.heap.size + 1 + 1 + 1, 0, none⟩, 1, 1⟩⟩, ⟨40, ⟨some ⟨w.heap.size + 1 + 1 + 1 + 1, 0, none⟩, 2, 2⟩⟩] exP := by
    refine ⟨sl_cells encP_len s5.1 s5.2.1 rfl rfl, rfl, fun k hk => ?_, fun k hk => ?_⟩
    · match k, hk with
      | 0, _ => rfl
      | 1, _ => rfl
      | 2, _ => rfl
    · match k, hk with
      | 0, _ => exact i2
      | 1, _ => exact i3
      | 2, _ => exact i4
  exact bodyPost_ret (v := .agg #[.slice (some ⟨w.heap.size + 1, 0, none⟩) 3 3, .int .i64 5, .slice (some ⟨w.heap.size + 1 + 1 + 1 + 1 + 1, 0, none⟩) 3 3, .int .i64 0]) (by simp [results, Try.results55, go_sem, c0]) rfl ⟨_, _, _, rfl, sl_cells encB_len s1.1 s1.2.1 rfl rfl, hp, BW⟩

theorem ev_same1 : (2 == 2 && allN 2 fun k => iAt [0, 2] k == iAt [0, 2] k) = true := by decide
theorem ex_h3 : ∀ k, k < 3 → (pcAt exP k).hs.length ≤ 40 := by
  intro k hk
  match k, hk with
  | 0, _ => decide
  | 1, _ => decide
  | 2, _ => decide
set_option maxRecDepth 100000 in
set_option maxHeartbeats 3200000 in
theorem works_c (w : World) :
    Calls Try.prog 15 #[] w fun e w' => e = .returned (.bool true) ∧ Below w.heap.size w w' := by
  have c1 : ∀ (A1 A2 : Option Addr) (ms : List Pm) (W : World), BrsAt W A1 3 exB → PcsAt W A2 3 ms exP → Calls Try.prog 17 #[.agg #[.slice A1 3 3, .int .i64 5, .slice A2 3 3, .int .i64 0]] W fun e W' => e = .returned (.tuple #[.int .i64 5, .int .i64 0]) ∧ Below W.heap.size W W' := fun A1 A2 ms W h1 h2 => by
    have := many_c A1 A2 3 3 3 3 5 0 exB ms exP W (by omega) (by omega) ex_h3 h1 h2
    rw [ev_many, ev_ask true rfl] at this
    exact this
  have c2 : ∀ (A1 A2 : Option Addr) (ms : List Pm) (W : World), BrsAt W A1 3 exB → PcsAt W A2 3 ms exP → Calls Try.prog 19 #[.agg #[.slice A1 3 3, .int .i64 5, .slice A2 3 3, .int .i64 0], .int .i64 1] W fun e W' => ∃ B c, e = .returned (.tuple #[.slice B 2 c, .int .i64 0]) ∧ IntsAt W' B 2 [0, 2] ∧ Below W.heap.size W W' := fun A1 A2 ms W h1 h2 => by
    have := of_c A1 A2 3 3 3 3 5 0 1 exB ms exP W (by omega) (by omega) ex_h3 h1 h2
    rw [ev_of, ev_ask _ (by decide)] at this
    refine this.mono fun e W' => ?_
    rintro ⟨v, rfl, ho, hb⟩
    obtain ⟨A, c, rfl, -, hs⟩ := SlAt.of_own (d := (0 : Int)) encI_len ho rfl
    exact ⟨A, c, rfl, ints_iff.2 hs, hb⟩
  have c3 : ∀ (A1 A2 : Option Addr) (ms : List Pm) (W : World), BrsAt W A1 3 exB → PcsAt W A2 3 ms exP → Calls Try.prog 31 #[.agg #[.slice A1 3 3, .int .i64 5, .slice A2 3 3, .int .i64 0], .int .i64 0] W fun e W' => e = .returned (.tuple #[.agg #[.int .i64 0, .int .i64 60], .int .i64 0]) ∧ Below W.heap.size W W' := fun A1 A2 ms W h1 h2 => by
    have := rest_c A1 A2 3 3 3 3 5 0 0 exB ms exP W (by omega) (by omega) ex_h3 h1 h2
    rw [ev_rest] at this
    exact this
  have c4 : ∀ (A1 A2 : Option Addr) (ms : List Pm) (W : World), BrsAt W A1 3 exB → PcsAt W A2 3 ms exP → Calls Try.prog 21 #[.agg #[.slice A1 3 3, .int .i64 5, .slice A2 3 3, .int .i64 0], .int .i64 50] W fun e W' => e = .returned (.tuple #[.int .i64 3, .int .i64 0]) ∧ Below W.heap.size W W' := fun A1 A2 ms W h1 h2 => by
    have := room_c A1 A2 3 3 3 3 5 0 50 exB ms exP W (by omega) (by omega) ex_h3 h1 h2
    rw [ev_room] at this
    exact this
  have c5 : ∀ (A1 A2 : Option Addr) (ms : List Pm) (W : World), BrsAt W A1 3 exB → PcsAt W A2 3 ms exP → Calls Try.prog 23 #[.agg #[.slice A1 3 3, .int .i64 5, .slice A2 3 3, .int .i64 0]] W fun e W' => e = .returned (.tuple #[.int .i64 2, .int .i64 0]) ∧ Below W.heap.size W W' := fun A1 A2 ms W h1 h2 => by
    have := least_c A1 A2 3 3 3 3 5 0 exB ms exP W (by omega) (by omega) ex_h3 h1 h2
    rw [ev_least, ev_ask true rfl] at this
    exact this
  replace c1 := Lib.hid c1
  replace c2 := Lib.hid c2
  replace c3 := Lib.hid c3
  replace c4 := Lib.hid c4
  replace c5 := Lib.hid c5
  go_enter Try.func15, Try.ntmps15
  go_wp2_with fail
  refine (Example_c _).mono ?_
  rintro e w1 ⟨A1, A2, ms, rfl, h1, h2, hb1⟩
  have H1 := Lib.hid h1
  have H2 := Lib.hid h2
  clear h1 h2
  go_wp2_with fail
  refine (c1.out _ _ ms _ (H1.out.later (by (repeat first | with_reducible assumption | with_reducible exact Below.refl _ _ | (with_reducible refine Below.alloc ?_ ?side _; case side => (first | omega | (with_reducible exact Below.size (by assumption)) | (simp; done) | (simp; omega))) | (with_reducible refine Below.setCell ?_ ?side _; case side => (first | omega | (with_reducible exact Below.size (by assumption)) | (simp; done) | (simp; omega))) | with_reducible refine Below.drew ?_ | with_reducible refine below_drewN ?_ _ | (with_reducible refine below_step (by assumption) ?side ?_; case side => (first | omega | (with_reducible exact Below.size (by assumption)) | (simp; done) | (simp; omega)))))) (H2.out.later (by (repeat first | with_reducible assumption | with_reducible exact Below.refl _ _ | (with_reducible refine Below.alloc ?_ ?side _; case side => (first | omega | (with_reducible exact Below.size (by assumption)) | (simp; done) | (simp; omega))) | (with_reducible refine Below.setCell ?_ ?side _; case side => (first | omega | (with_reducible exact Below.size (by assumption)) | (simp; done) | (simp; omega))) | with_reducible refine Below.drew ?_ | with_reducible refine below_drewN ?_ _ | (with_reducible refine below_step (by assumption) ?side ?_; case side => (first | omega | (with_reducible exact Below.size (by assumption)) | (simp; done) | (simp; omega))))))).mono ?_
  rintro e w2 ⟨rfl, hb2⟩
  have zs2 := hb2.size
  simp only [World.size_alloc] at zs2
  have p2 := fun i => (hb2.cell (p := ⟨w1.heap.size, i, none⟩) (by simp)).trans ((al1_0 rfl).2.1 i)
  have b2 : Below w1.heap.size w1 w2 := ((Below.refl _ _).alloc (Nat.le_refl _) _).trans (hb2.mono (by simp))
  have m2 : w1.heap.size < w2.heap.size := by omega
  clear hb2
  go_wp2_with fail
  refine (c2.out _ _ ms _ (H1.out.later b2) (H2.out.later b2)).mono ?_
  rintro e w3 ⟨B, cB, rfl, hi, hb3⟩
  have HI := Lib.hid hi
  have zs3 := hb3.size
  have p3 := fun i => (hb3.cell (p := ⟨w1.heap.size, i, none⟩) m2).trans (p2 i)
  have b3 : Below w1.heap.size w1 w3 := b2.trans (hb3.mono (by omega))
  have m3 : w1.heap.size < w3.heap.size := by omega
  clear hb3 hi p2 b2 m2 zs2
  go_wp2_with fail
  refine (c3.out _ _ ms _ (H1.out.later b3) (H2.out.later b3)).mono ?_
  rintro e w4 ⟨rfl, hb4⟩
  have zs4 := hb4.size
  have p4 := fun i => (hb4.cell (p := ⟨w1.heap.size, i, none⟩) m3).trans (p3 i)
  have b4 : Below w1.heap.size w1 w4 := b3.trans (hb4.mono (by omega))
  have m4 : w1.heap.size < w4.heap.size := by omega
  have HI4 : Hid (IntsAt w4 B 2 [0, 2]) := Lib.hid (HI.out.later hb4)
  clear hb4 p3 b3 m3 zs3 HI
  go_wp2_with fail
  refine (c4.out _ _ ms _ (H1.out.later (by (repeat first | with_reducible assumption | with_reducible exact Below.refl _ _ | (with_reducible refine Below.alloc ?_ ?side _; case side => (first | omega | (with_reducible exact Below.size (by assumption)) | (simp; done) | (simp; omega))) | (with_reducible refine Below.setCell ?_ ?side _; case side => (first | omega | (with_reducible exact Below.size (by assumption)) | (simp; done) | (simp; omega))) | with_reducible refine Below.drew ?_ | with_reducible refine below_drewN ?_ _ | (with_reducible refine below_step (by assumption) ?side ?_; case side => (first | omega | (with_reducible exact Below.size (by assumption)) | (simp; done) | (simp; omega)))))) (H2.out.later (by (repeat first | with_reducible assumption | with_reducible exact Below.refl _ _ | (with_reducible refine Below.alloc ?_ ?side _; case side => (first | omega | (with_reducible exact Below.size (by assumption)) | (simp; done) | (simp; omega))) | (with_reducible refine Below.setCell ?_ ?side _; case side => (first | omega | (with_reducible exact Below.size (by assumption)) | (simp; done) | (simp; omega))) | with_reducible refine Below.drew ?_ | with_reducible refine below_drewN ?_ _ | (with_reducible refine below_step (by assumption) ?side ?_; case side => (first | omega | (with_reducible exact Below.size (by assumption)) | (simp; done) | (simp; omega))))))).mono ?_
  rintro e w5 ⟨rfl, hb5⟩
  have zs5 := hb5.size
  simp only [World.size_alloc] at zs5
  have hb45 : Below w4.heap.size w4 w5 := ((Below.refl _ _).alloc (Nat.le_refl _) _).trans (hb5.mono (by simp))
  have q5 := fun i => (hb5.cell (p := ⟨w4.heap.size, i, none⟩) (by simp)).trans ((al1_0 rfl).2.1 i)
  have p5 := fun i => (hb45.cell (p := ⟨w1.heap.size, i, none⟩) m4).trans (p4 i)
  have b5 : Below w1.heap.size w1 w5 := b4.trans (hb45.mono (by omega))
  have m5 : w1.heap.size < w5.heap.size := by omega
  have n5 : w4.heap.size < w5.heap.size := by omega
  have HI5 : Hid (IntsAt w5 B 2 [0, 2]) := Lib.hid (HI4.out.later hb45)
  clear hb5 p4 b4 m4 zs4 HI4 hb45
  go_wp2_with fail
  refine (c5.out _ _ ms _ (H1.out.later b5) (H2.out.later b5)).mono ?_
  rintro e w6 ⟨rfl, hb6⟩
  have zs6 := hb6.size
  have q6 := fun i => (hb6.cell (p := ⟨w4.heap.size, i, none⟩) n5).trans (q5 i)
  have b6 : Below w1.heap.size w1 w6 := b5.trans (hb6.mono (by omega))
  have n6 : w4.heap.size < w6.heap.size := by omega
  have HI6 : Hid (IntsAt w6 B 2 [0, 2]) := Lib.hid (HI5.out.later hb6)
  clear hb6 p5 q5 b5 m5 HI5
  go_wp2_with fail
  refine (SameInts_c B (some ⟨w6.heap.size, 0, none⟩) 2 2 cB 2 [0, 2] [0, 2] _ (by omega) (by omega) (HI6.out.later (by (repeat first | with_reducible assumption | with_reducible exact Below.refl _ _ | (with_reducible refine Below.alloc ?_ ?side _; case side => (first | omega | (with_reducible exact Below.size (by assumption)) | (simp; done) | (simp; omega))) | (with_reducible refine Below.setCell ?_ ?side _; case side => (first | omega | (with_reducible exact Below.size (by assumption)) | (simp; done) | (simp; omega))) | with_reducible refine Below.drew ?_ | with_reducible refine below_drewN ?_ _ | (with_reducible refine below_step (by assumption) ?side ?_; case side => (first | omega | (with_reducible exact Below.size (by assumption)) | (simp; done) | (simp; omega)))))) (ints_iff.2 (sl_new encI_len rfl rfl rfl))).mono ?_
  rw [ev_same1]
  rintro e w7 ⟨rfl, hb7⟩
  have q7 := fun i => (hb7.cell (p := ⟨w4.heap.size, i, none⟩) (by simp; omega)).trans ((World.cell?_alloc_lt w6 (.cells #[.int .i64 0, .int .i64 2] 3) ⟨w4.heap.size, i, none⟩ n6).trans (q6 i))
  go_wp2
  go_ret
  refine ⟨rfl, hb1.trans (Below.mono ?_ hb1.size)⟩
  exact b6.trans (((Below.refl _ _).alloc b6.size _).trans (hb7.mono (by simp; have := b6.size; omega)))

end Go.Proofs.Ytmopnbijfcamjaa
