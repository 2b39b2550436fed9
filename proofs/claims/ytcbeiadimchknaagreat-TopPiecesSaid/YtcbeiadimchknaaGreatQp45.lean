/- The chapter's examples reckoned (layer 4); Example of the statements (layer 4). -/
import Derived.Test.YtcbeiadimchknaaGreatQp44
import Derived.Shelf.Abstract
import Derived.Laws.EntriesVeiled
import Derived.Handy
import Derived.Deep.DrawnRows
import Derived.Deep.DeepCutAuto
namespace Go.Proofs.YtcbeiadimchknaaGreat
open Go.RowKit
open Go.Sort (grow)
set_option linter.unusedVariables false
set_option linter.unusedSimpArgs false

def exP : P4 := ⟨12, 9900, 10200, 0, [⟨1000, 1, 12⟩, ⟨500, 0, 20⟩], [⟨1, 0, 10, 0, 2, 0, 0⟩, ⟨2, 0, 10, 30, 2, 0, 0⟩]⟩
def exQ : P4 := ⟨12, 9900, 10200, 0, [⟨1000, 1, 12⟩, ⟨500, 0, 20⟩], [⟨1, 0, 10, 0, 2, 0, 0⟩, ⟨2, 0, 10, 30, 2, 0, 0⟩, ⟨1, 1, 20, 0, 1, 20, 20⟩]⟩
set_option maxRecDepth 100000
theorem exP_len : (tr4 exP).length ≤ 90000 := by decide +kernel
theorem exP_op : op4 exP true = 0 := by decide +kernel
theorem exP_many : mn4 (ol4 exP true) (ol4 exP true).length = 50 := by decide +kernel
theorem exP_bev : bev4 exP = 4 := by decide +kernel
theorem exP_bee : bee4 exP = 0 := by decide +kernel
theorem exQ_len : (tr4 exQ).length ≤ 90000 := by decide +kernel
theorem exQ_op : op4 exQ true = 0 := by decide +kernel
theorem exQ_st : (st4 exQ).lo = 26 ∧ (st4 exQ).hi = 31 := by decide +kernel
theorem exQ_lg : lgs4 exQ 1 = [10001, 10002] := by decide +kernel
theorem exQ_w1 : op4 exQ (when4 1) = 0 := exQ_op

set_option maxHeartbeats 400000 in
theorem Within24_c (n a b : Int) (w : World) :
    Calls Tryz.prog 71 #[.int .i64 n, .int .i64 a, .int .i64 b] w fun e w' => e = .returned (.bool (wn n a b)) ∧ w = w' := by
  go_enter Tryz.func71, Tryz.ntmps71
  go_wp2
  all_goals
    go_ret
    exact ⟨ret_bool (by simp [wn, *] <;> omega), rfl⟩
set_option maxHeartbeats 400000 in
theorem refWithin4_c (n a b : Int) (w : World) :
    Calls Tryz.prog 41 #[.int .i64 n, .int .i64 a, .int .i64 b] w fun e w' => e = .returned (.bool (wn n a b)) ∧ w = w' := by
  go_enter Tryz.func41, Tryz.ntmps41
  go_wp2_with (go_at_call 71; refine (Within24_c _ _ _ _).mono ?_; rintro e w' ⟨rfl, rfl⟩)
  go_ret
  exact ⟨rfl, rfl⟩
set_option maxHeartbeats 400000 in
theorem refIsWhen4_c (n : Int) (w : World) :
    Calls Tryz.prog 42 #[.int .i64 n] w fun e w' => e = .returned (.bool (when4 n)) ∧ w = w' := by
  unfold when4
  cases e1 : (n == 1) <;> cases e2 : (n == 2)
  all_goals
    go_enter Tryz.func42, Tryz.ntmps42
    go_wp2
    go_ret
    exact ⟨rfl, rfl⟩
def kn4 (e : Int) : Bool := (e == 0) || (e == 3)
def sane4 (s : Sp) : Bool := decide (s.lo ≤ s.hi) && (decide (-99999 ≤ s.lo) && decide (s.hi ≤ 99999))
set_option maxHeartbeats 800000 in
theorem isRod4_c (ir glo ghi wrg : Int) (Ar : Option Addr) (nr cr : Nat) (Ad : Option Addr) (nd cd : Nat) (n : Int) (w : World) (hnr : nr ≤ 40) :
    Calls Tryz.prog 43 #[.agg #[.int .i64 ir, .int .i64 glo, .int .i64 ghi, .slice Ar nr cr, .slice Ad nd cd, .int .i64 wrg], .int .i64 n] w fun e w' => e = .returned (.bool (wn n 0 ((nr : Int) - 1))) ∧ Below w.heap.size w w' := by
  have v1 : IntKind.i64.wrap ((nr : Int) - 1) = (nr : Int) - 1 := IntWalk.i64_in _ (by omega)
  go_enter Tryz.func43, Tryz.ntmps43
  go_wp2_with (go_at_call 41; refine (refWithin4_c _ _ _ _).mono ?_; rintro e w' ⟨rfl, rfl⟩)
  go_ret
  exact ⟨rfl, by (repeat first | with_reducible assumption | with_reducible exact Below.refl _ _ | (with_reducible refine Below.alloc ?_ ?side _; case side => (first | omega | (with_reducible exact Below.size (by assumption)) | (simp; done) | (simp; omega))) | (with_reducible refine Below.setCell ?_ ?side _; case side => (first | omega | (with_reducible exact Below.size (by assumption)) | (simp; done) | (simp; omega))) | with_reducible refine Below.drew ?_ | with_reducible refine below_drewN ?_ _ | (with_reducible refine below_step (by assumption) ?side ?_; case side => (first | omega | (with_reducible exact Below.size (by assumption)) | (simp; done) | (simp; omega))))⟩
set_option maxHeartbeats 800000 in
theorem same4_c (A B : Option Addr) (n m c d : Nat) (xs ys : List Int) (w : World) (hn : n ≤ 100000) (hm : m ≤ 100000) (HX : IntsAt w A n xs) (HY : IntsAt w B m ys) :
    Calls Tryz.prog 15 #[.slice A n c, .slice B m d] w fun e w' => e = .returned (.bool (n == m && allN n fun k => iAt xs k == iAt ys k)) ∧ Below w.heap.size w w' := by
  cases e0 : (n == m)
  · have hne : n ≠ m := by simpa using e0
    go_enter Tryz.func15, Tryz.ntmps15
    go_wp2
    go_ret
    exact ⟨rfl, by (repeat first | with_reducible assumption | with_reducible exact Below.refl _ _ | refine below_drewN ?_ _ | refine Below.drew ?_ | refine Below.alloc ?_ (by first | omega | (with_reducible exact Below.size (by assumption)) | (simp; done) | (simp; omega)) _ | refine Below.setCell ?_ (by first | omega | (with_reducible exact Below.size (by assumption)) | (simp; done) | (simp; omega)) _ | refine below_step (by assumption) (by first | omega | (with_reducible exact Below.size (by assumption)) | (simp; done) | (simp; omega)) ?_)⟩
  obtain rfl : n = m := by simpa using e0
  go_enter Tryz.func15, Tryz.ntmps15
  go_wp2
  go_loopw [5] (fun i (wr : World) => ∃ k : Nat, k ≤ n ∧ i = .int .i64 k ∧ Hid (∀ j, j < k → (iAt xs j == iAt ys j) = true) ∧ Below w.heap.size w wr) (fun i _ => n - (intOf i).toNat)
  case atStart => exact ⟨0, by omega, rfl, fun j hj => absurd hj (by omega), Below.refl _ _⟩
  case round =>
    obtain ⟨k, hk, rfl, H, hb⟩ := hrel
    by_cases hlt : k < n
    · obtain ⟨b, o, rfl, hb1, x0⟩ := (HX.later hb).get hlt
      obtain ⟨b', o', rfl, hb2, y0⟩ := (HY.later hb).get hlt
      have hB : decide ((k : Int) < n) = true := by simp; omega
      cases e1 : (iAt xs k == iAt ys k)
      · have hA : allN n (fun k => iAt xs k == iAt ys k) = false := allN_no hlt e1
        go_wp2
        go_quiet (fail)
        go_wp2
        go_ret
        exact ⟨ret_bool (by rw [hA]; simp), by (repeat first | with_reducible assumption | with_reducible exact Below.refl _ _ | refine below_drewN ?_ _ | refine Below.drew ?_ | refine Below.alloc ?_ (by first | omega | (with_reducible exact Below.size (by assumption)) | (simp; done) | (simp; omega)) _ | refine Below.setCell ?_ (by first | omega | (with_reducible exact Below.size (by assumption)) | (simp; done) | (simp; omega)) _ | refine below_step (by assumption) (by first | omega | (with_reducible exact Below.size (by assumption)) | (simp; done) | (simp; omega)) ?_)⟩
      · go_wp2
        go_quiet (fail)
        go_wp2
        go_roundw
        case rel => exact ⟨k + 1, by omega, by go_num, fun j hj => by
          rcases Nat.lt_succ_iff_lt_or_eq.1 hj with h | rfl
          · exact H.out j h
          · exact e1, by (repeat first | with_reducible assumption | with_reducible exact Below.refl _ _ | refine below_drewN ?_ _ | refine Below.drew ?_ | refine Below.alloc ?_ (by first | omega | (with_reducible exact Below.size (by assumption)) | (simp; done) | (simp; omega)) _ | refine Below.setCell ?_ (by first | omega | (with_reducible exact Below.size (by assumption)) | (simp; done) | (simp; omega)) _ | refine below_step (by assumption) (by first | omega | (with_reducible exact Below.size (by assumption)) | (simp; done) | (simp; omega)) ?_)⟩
        case measure => simp [intOf]; omega
    · obtain rfl : n = k := by omega
      have hA := Lib.hid (allN_iff.2 H.out)
      have hB : decide (((n : Nat) : Int) < n) = false := by simp
      clear H
      go_wp2
      go_ret
      exact ⟨ret_bool (by rw [hA.out]; rfl), by (repeat first | with_reducible assumption | with_reducible exact Below.refl _ _ | refine below_drewN ?_ _ | refine Below.drew ?_ | refine Below.alloc ?_ (by first | omega | (with_reducible exact Below.size (by assumption)) | (simp; done) | (simp; omega)) _ | refine Below.setCell ?_ (by first | omega | (with_reducible exact Below.size (by assumption)) | (simp; done) | (simp; omega)) _ | refine below_step (by assumption) (by first | omega | (with_reducible exact Below.size (by assumption)) | (simp; done) | (simp; omega)) ?_)⟩

end Go.Proofs.YtcbeiadimchknaaGreat

namespace Go.Proofs.YtcbeiadimchknaaGreat
open Go.RowKit
open Go.Sort (grow)
set_option linter.unusedVariables false
set_option linter.unusedSimpArgs false

theorem own_blk {w : World} {base g n size : Nat} {e : TypeId} {cs : Array Value} {xs : List Value} (h : Blk w g e cs) (hb : base ≤ g) (hn : n ≤ maxLen) (hs : cs.size = n * size) (hx : cs.toList = xs) : w.ownsRow base e size (.slice (some ⟨g, 0, none⟩) n n) n xs :=
  ⟨by rw [← hx, Array.length_toList, hs], .inr ⟨g, n, cs, rfl, hb, h, Nat.le_refl _, hn, hs, by rw [← hs, ← Array.length_toList, List.take_length, hx]⟩⟩
theorem sl_blk {α : Type} {enc : α → List Value} {size : Nat} {d : α} (hs : ∀ x, (enc x).length = size) {w : World} {cs : Array Value} {e : TypeId} {ys : List α} {g m : Nat} (h : Blk w g e cs) (hl : ys.length = m) (hcs : cs.toList = ys.flatMap enc) :
    SlAt enc size d w (some ⟨g, 0, none⟩) m ys := by
  refine ⟨hl, fun _ => ⟨g, 0, rfl, h.lt, fun k hk j u hu => ?_⟩⟩
  have hj : j < size := by
    have := (List.getElem?_eq_some_iff.1 hu).1
    rwa [hs] at this
  rw [h.cell, Nat.zero_add, ← Array.getElem?_toList, hcs, flat_get (d := d) hs ys k j hj (by omega)]
  exact hu
set_option maxRecDepth 100000 in
set_option maxHeartbeats 3200000 in
theorem Example4_c (w : World) :
    Calls Tryz.prog 21 #[] w fun e w' => ∃ gr gd, e = .returned (.tuple #[.agg #[.int .i64 12, .int .i64 9900, .int .i64 10200, .slice (some ⟨gr, 0, none⟩) 2 2, .slice (some ⟨gd, 0, none⟩) 2 2, .int .i64 0], .agg #[.int .i64 1, .int .i64 1, .int .i64 20, .int .i64 0, .int .i64 1, .int .i64 20, .int .i64 20]]) ∧
      gr ≠ gd ∧ w.heap.size ≤ gr ∧ w.heap.size ≤ gd ∧ Blk w' gr 94 #[.int .i64 1000, .int .i64 1, .int .i64 12, .int .i64 500, .int .i64 0, .int .i64 20] ∧ Blk w' gd 58 #[.int .i64 1, .int .i64 0, .int .i64 10, .int .i64 0, .int .i64 2, .int .i64 0, .int .i64 0, .int .i64 2, .int .i64 0, .int .i64 10, .int .i64 30, .int .i64 2, .int .i64 0, .int .i64 0] ∧ Below w.heap.size w w' := by
  go_enter Tryz.func21, Tryz.ntmps21
  go_upto_region 2 with (fail)
  go_name_world X hX
  have BX : Below w.heap.size w X := (al5 hX).1
  have q4 := (al5_4 hX).2.1
  have l4 := (al5_4 hX).1
  have HB0 : Hid (Blk X w.heap.size 50 #[.int .i64 0, .int .i64 0, .int .i64 0, .slice none 0 0, .slice none 0 0, .int .i64 0]) := by rw [← hX]; exact Lib.hid (((((Blk.new w _ _).alloc _).alloc _).alloc _).alloc _)
  have HB1 : Hid (Blk X (w.heap.size + 1) 58 #[.int .i64 0, .int .i64 0, .int .i64 0, .int .i64 0, .int .i64 0, .int .i64 0, .int .i64 0]) := by
    rw [← hX]
    have := Blk.new (w.alloc (.cells #[.int .i64 0, .int .i64 0, .int .i64 0, .slice none 0 0, .slice none 0 0, .int .i64 0] 50)) 58 #[.int .i64 0, .int .i64 0, .int .i64 0, .int .i64 0, .int .i64 0, .int .i64 0, .int .i64 0]
    simp only [World.size_alloc] at this
    exact Lib.hid (((this.alloc _).alloc _).alloc _)
  have HB2 : Hid (Blk X (w.heap.size + 1 + 1) 94 #[.int .i64 1000, .int .i64 1, .int .i64 12, .int .i64 500, .int .i64 0, .int .i64 20]) := by
    rw [← hX]
    have := Blk.new ((w.alloc (.cells #[.int .i64 0, .int .i64 0, .int .i64 0, .slice none 0 0, .slice none 0 0, .int .i64 0] 50)).alloc (.cells #[.int .i64 0, .int .i64 0, .int .i64 0, .int .i64 0, .int .i64 0, .int .i64 0, .int .i64 0] 58)) 94 #[.int .i64 1000, .int .i64 1, .int .i64 12, .int .i64 500, .int .i64 0, .int .i64 20]
    simp only [World.size_alloc] at this
    exact Lib.hid ((this.alloc _).alloc _)
  have HB3 : Hid (Blk X (w.heap.size + 1 + 1 + 1) 58 #[.int .i64 1, .int .i64 0, .int .i64 10, .int .i64 0, .int .i64 2, .int .i64 0, .int .i64 0, .int .i64 2, .int .i64 0, .int .i64 10, .int .i64 30, .int .i64 2, .int .i64 0, .int .i64 0]) := by
    rw [← hX]
    have := Blk.new (((w.alloc (.cells #[.int .i64 0, .int .i64 0, .int .i64 0, .slice none 0 0, .slice none 0 0, .int .i64 0] 50)).alloc (.cells #[.int .i64 0, .int .i64 0, .int .i64 0, .int .i64 0, .int .i64 0, .int .i64 0, .int .i64 0] 58)).alloc (.cells #[.int .i64 1000, .int .i64 1, .int .i64 12, .int .i64 500, .int .i64 0, .int .i64 20] 94)) 58 #[.int .i64 1, .int .i64 0, .int .i64 10, .int .i64 0, .int .i64 2, .int .i64 0, .int .i64 0, .int .i64 2, .int .i64 0, .int .i64 10, .int .i64 30, .int .i64 2, .int .i64 0, .int .i64 0]
    simp only [World.size_alloc] at this
    exact Lib.hid (this.alloc _)
  have k0 := HB0.out.cell
  have f0 := HB0.out.frozen
  have l0 := HB0.out.lt
  have k1 := HB1.out.cell
  have f1 := HB1.out.frozen
  have l1 := HB1.out.lt
  clear hX
  go_wp2_with fail
  have hb0 := (((((((((((((HB0.out.set_ 0 (.int .i64 12)).set_ 1 (.int .i64 9900)).set_ 2 (.int .i64 10200)).set_ 3 (.slice (some ⟨w.heap.size + 1 + 1, 0, none⟩) 2 2)).set_ 4 (.slice (some ⟨w.heap.size + 1 + 1 + 1, 0, none⟩) 2 2)).set_ 5 (.int .i64 0)).far (p := ⟨w.heap.size + 1, 0, none⟩) (by simp) (.int .i64 1)).far (p := ⟨w.heap.size + 1, 1, none⟩) (by simp) (.int .i64 1)).far (p := ⟨w.heap.size + 1, 2, none⟩) (by simp) (.int .i64 20)).far (p := ⟨w.heap.size + 1, 3, none⟩) (by simp) (.int .i64 0)).far (p := ⟨w.heap.size + 1, 4, none⟩) (by simp) (.int .i64 1)).far (p := ⟨w.heap.size + 1, 5, none⟩) (by simp) (.int .i64 20)).far (p := ⟨w.heap.size + 1, 6, none⟩) (by simp) (.int .i64 20))
  have hb1 := (((((((((((((HB1.out.far (p := ⟨w.heap.size, 0, none⟩) (by simp) (.int .i64 12)).far (p := ⟨w.heap.size, 1, none⟩) (by simp) (.int .i64 9900)).far (p := ⟨w.heap.size, 2, none⟩) (by simp) (.int .i64 10200)).far (p := ⟨w.heap.size, 3, none⟩) (by simp) (.slice (some ⟨w.heap.size + 1 + 1, 0, none⟩) 2 2)).far (p := ⟨w.heap.size, 4, none⟩) (by simp) (.slice (some ⟨w.heap.size + 1 + 1 + 1, 0, none⟩) 2 2)).far (p := ⟨w.heap.size, 5, none⟩) (by simp) (.int .i64 0)).set_ 0 (.int .i64 1)).set_ 1 (.int .i64 1)).set_ 2 (.int .i64 20)).set_ 3 (.int .i64 0)).set_ 4 (.int .i64 1)).set_ 5 (.int .i64 20)).set_ 6 (.int .i64 20))
  have hb2 := Lib.hid ((((((((((((((HB2.out.far (p := ⟨w.heap.size, 0, none⟩) (by show w.heap.size + 1 + 1 ≠ _; simp; try omega) (.int .i64 12)).far (p := ⟨w.heap.size, 1, none⟩) (by show w.heap.size + 1 + 1 ≠ _; simp; try omega) (.int .i64 9900)).far (p := ⟨w.heap.size, 2, none⟩) (by show w.heap.size + 1 + 1 ≠ _; simp; try omega) (.int .i64 10200)).far (p := ⟨w.heap.size, 3, none⟩) (by show w.heap.size + 1 + 1 ≠ _; simp; try omega) (.slice (some ⟨w.heap.size + 1 + 1, 0, none⟩) 2 2)).far (p := ⟨w.heap.size, 4, none⟩) (by show w.heap.size + 1 + 1 ≠ _; simp; try omega) (.slice (some ⟨w.heap.size + 1 + 1 + 1, 0, none⟩) 2 2)).far (p := ⟨w.heap.size, 5, none⟩) (by show w.heap.size + 1 + 1 ≠ _; simp; try omega) (.int .i64 0)).far (p := ⟨w.heap.size + 1, 0, none⟩) (by show w.heap.size + 1 + 1 ≠ _; simp; try omega) (.int .i64 1)).far (p := ⟨w.heap.size + 1, 1, none⟩) (by show w.heap.size + 1 + 1 ≠ _; simp; try omega) (.int .i64 1)).far (p := ⟨w.heap.size + 1, 2, none⟩) (by show w.heap.size + 1 + 1 ≠ _; simp; try omega) (.int .i64 20)).far (p := ⟨w.heap.size + 1, 3, none⟩) (by show w.heap.size + 1 + 1 ≠ _; simp; try omega) (.int .i64 0)).far (p := ⟨w.heap.size + 1, 4, none⟩) (by show w.heap.size + 1 + 1 ≠ _; simp; try omega) (.int .i64 1)).far (p := ⟨w.heap.size + 1, 5, none⟩) (by show w.heap.size + 1 + 1 ≠ _; simp; try omega) (.int .i64 20)).far (p := ⟨w.heap.size + 1, 6, none⟩) (by show w.heap.size + 1 + 1 ≠ _; simp; try omega) (.int .i64 20)))
  have hb3 := Lib.hid ((((((((((((((HB3.out.far (p := ⟨w.heap.size, 0, none⟩) (by show w.heap.size + 1 + 1 + 1 ≠ _; simp; try omega) (.int .i64 12)).far (p := ⟨w.heap.size, 1, none⟩) (by show w.heap.size + 1 + 1 + 1 ≠ _; simp; try omega) (.int .i64 9900)).far (p := ⟨w.heap.size, 2, none⟩) (by show w.heap.size + 1 + 1 + 1 ≠ _; simp; try omega) (.int .i64 10200)).far (p := ⟨w.heap.size, 3, none⟩) (by show w.heap.size + 1 + 1 + 1 ≠ _; simp; try omega) (.slice (some ⟨w.heap.size + 1 + 1, 0, none⟩) 2 2)).far (p := ⟨w.heap.size, 4, none⟩) (by show w.heap.size + 1 + 1 + 1 ≠ _; simp; try omega) (.slice (some ⟨w.heap.size + 1 + 1 + 1, 0, none⟩) 2 2)).far (p := ⟨w.heap.size, 5, none⟩) (by show w.heap.size + 1 + 1 + 1 ≠ _; simp; try omega) (.int .i64 0)).far (p := ⟨w.heap.size + 1, 0, none⟩) (by show w.heap.size + 1 + 1 + 1 ≠ _; simp; try omega) (.int .i64 1)).far (p := ⟨w.heap.size + 1, 1, none⟩) (by show w.heap.size + 1 + 1 + 1 ≠ _; simp; try omega) (.int .i64 1)).far (p := ⟨w.heap.size + 1, 2, none⟩) (by show w.heap.size + 1 + 1 + 1 ≠ _; simp; try omega) (.int .i64 20)).far (p := ⟨w.heap.size + 1, 3, none⟩) (by show w.heap.size + 1 + 1 + 1 ≠ _; simp; try omega) (.int .i64 0)).far (p := ⟨w.heap.size + 1, 4, none⟩) (by show w.heap.size + 1 + 1 + 1 ≠ _; simp; try omega) (.int .i64 1)).far (p := ⟨w.heap.size + 1, 5, none⟩) (by show w.heap.size + 1 + 1 + 1 ≠ _; simp; try omega) (.int .i64 20)).far (p := ⟨w.heap.size + 1, 6, none⟩) (by show w.heap.size + 1 + 1 + 1 ≠ _; simp; try omega) (.int .i64 20)))
  have d0 := hb0.cell 0
  have d1 := hb0.cell 1
  have d2 := hb0.cell 2
  have d3 := hb0.cell 3
  have d4 := hb0.cell 4
  have d5 := hb0.cell 5
  have e0 := hb1.cell 0
  have e1 := hb1.cell 1
  have e2 := hb1.cell 2
  have e3 := hb1.cell 3
  have e4 := hb1.cell 4
  have e5 := hb1.cell 5
  have e6 := hb1.cell 6
  simp only [List.setIfInBounds_toArray, List.set_cons_zero, List.set_cons_succ] at d0 d1 d2 d3 d4 d5 e0 e1 e2 e3 e4 e5 e6
  clear hb0 hb1 k0 k1 f0 f1 q4
  exact bodyPost_ret (v := .tuple #[.agg #[.int .i64 12, .int .i64 9900, .int .i64 10200, .slice (some ⟨w.heap.size + 1 + 1, 0, none⟩) 2 2, .slice (some ⟨w.heap.size + 1 + 1 + 1, 0, none⟩) 2 2, .int .i64 0], .agg #[.int .i64 1, .int .i64 1, .int .i64 20, .int .i64 0, .int .i64 1, .int .i64 20, .int .i64 20]]) (by simp [results, Tryz.results21, go_sem, d0, d1, d2, d3, d4, d5, e0, e1, e2, e3, e4, e5, e6]) rfl ⟨_, _, rfl, by omega, by omega, by omega, hb2.out, hb3.out, by (repeat first | with_reducible assumption | with_reducible exact Below.refl _ _ | (with_reducible refine Below.alloc ?_ ?side _; case side => (first | omega | (with_reducible exact Below.size (by assumption)) | (simp; done) | (simp; omega))) | (with_reducible refine Below.setCell ?_ ?side _; case side => (first | omega | (with_reducible exact Below.size (by assumption)) | (simp; done) | (simp; omega))) | with_reducible refine Below.drew ?_ | with_reducible refine below_drewN ?_ _ | (with_reducible refine below_step (by assumption) ?side ?_; case side => (first | omega | (with_reducible exact Below.size (by assumption)) | (simp; done) | (simp; omega))))⟩

theorem ro4E : ElemT Tryz.prog 47 94 3 24 := by
  obtain ⟨i0, hi0, hz0, hz1, hz2⟩ := info_parts (P := Tryz.prog) (show (Tryz.prog.info? 94).map (fun i => (i.zero, i.size, i.bytes)) = some (some (.agg #[.int .i64 0, .int .i64 0, .int .i64 0]), 3, 24) by kernel_rfl)
  exact ⟨Tryz.underlying47, ⟨i0, _, hi0, hz0, hz1, hz2, rfl⟩, by omega, by omega⟩
theorem re4E : ElemT Tryz.prog 48 58 7 56 := by
  obtain ⟨i0, hi0, hz0, hz1, hz2⟩ := info_parts (P := Tryz.prog) (show (Tryz.prog.info? 58).map (fun i => (i.zero, i.size, i.bytes)) = some (some (.agg #[.int .i64 0, .int .i64 0, .int .i64 0, .int .i64 0, .int .i64 0, .int .i64 0, .int .i64 0]), 7, 56) by kernel_rfl)
  exact ⟨Tryz.underlying48, ⟨i0, _, hi0, hz0, hz1, hz2, rfl⟩, by omega, by omega⟩
theorem ev_same4 : (2 == 2 && allN 2 fun k => iAt [10001, 10002] k == iAt [10001, 10002] k) = true := by decide
/-- what lies in memory: the pull, the reading, the rods -/
structure Dw4 (g gr : Nat) (v : Value) (V : World) : Prop where
  p : Blk V g 50 #[.int .i64 12, .int .i64 9900, .int .i64 10200, .slice (some ⟨gr, 0, none⟩) 2 2, v, .int .i64 0]
  m : Blk V (g + 1) 58 #[.int .i64 1, .int .i64 1, .int .i64 20, .int .i64 0, .int .i64 1, .int .i64 20, .int .i64 20]
  r : Blk V gr 94 #[.int .i64 1000, .int .i64 1, .int .i64 12, .int .i64 500, .int .i64 0, .int .i64 20]
theorem Dw4.below {g gr : Nat} {v : Value} {V V' : World} (h : Dw4 g gr v V) (hb : Below V.heap.size V V') : Dw4 g gr v V' := ⟨h.p.below hb h.p.lt, h.m.below hb h.m.lt, h.r.below hb h.r.lt⟩

end Go.Proofs.YtcbeiadimchknaaGreat
