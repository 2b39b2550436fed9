/- The chapter's examples reckoned (layer 4); Example of the statements (layer 4). -/
import Derived.Test.YtmmgkmdfecnkdaaQa28
import Derived.Shelf.Abstract
import Derived.Laws.EntriesVeiled
import Derived.Handy
import Derived.Deep.DrawnRows
import Derived.Deep.DeepCutAuto
namespace Go.Proofs.Ytmmgkmdfecnkdaa
open Go.RowKit
open Go.Sort (grow)
set_option linter.unusedVariables false
set_option linter.unusedSimpArgs false

def exP : P4 := ⟨12, 9900, 10200, 0, [⟨1000, 1, 12⟩, ⟨500, 0, 20⟩], [⟨1, 0, 10, 0, 2, 0, 0⟩, ⟨2, 0, 10, 30, 2, 0, 0⟩]⟩
def exQ : P4 := ⟨12, 9900, 10200, 0, [⟨1000, 1, 12⟩, ⟨500, 0, 20⟩], [⟨1, 0, 10, 0, 2, 0, 0⟩, ⟨2, 0, 10, 30, 2, 0, 0⟩, ⟨1, 1, 20, 0, 1, 20, 20⟩]⟩
set_option maxRecDepth 100000
theorem exP_len : (tr4 exP).length ≤ 90000 := by decide +kernel
theorem exP_op : op4 exP true = 0 := by decide +kernel
theorem exP_many : mn4 (ol4 exP true) (ol4 exP true).length = 50 := by decide +kernel
theorem exP_bev : bev4 exP = 4 := by decide +kernel
theorem exP_bee : bee4 exP = 0 := by decide +kernel
theorem exQ_len : (tr4 exQ).length ≤ 90000 := by decide +kernel
theorem exQ_op : op4 exQ true = 0 := by decide +kernel
theorem exQ_st : (st4 exQ).lo = 26 ∧ (st4 exQ).hi = 31 := by decide +kernel
theorem exQ_lg : lgs4 exQ 1 = [10001, 10002] := by decide +kernel
theorem exQ_w1 : op4 exQ (when4 1) = 0 := exQ_op

set_option maxHeartbeats 400000 in
theorem Within24_c (n a b : Int) (w : World) :
    Calls Try.prog 66 #[.int .i64 n, .int .i64 a, .int .i64 b] w fun e w' => e = .returned (.bool (wn n a b)) ∧ w = w' := by
  go_enter Try.func66, Try.ntmps66
  go_wp2
  all_goals
    go_ret
    exact ⟨ret_bool (by simp [wn, *] <;> omega), rfl⟩
set_option maxHeartbeats 400000 in
theorem refWithin4_c (n a b : Int) (w : World) :
    Calls Try.prog 37 #[.int .i64 n, .int .i64 a, .int .i64 b] w fun e w' => e = .returned (.bool (wn n a b)) ∧ w = w' := by
  go_enter Try.func37, Try.ntmps37
  go_wp2_with (go_at_call 66; refine (Within24_c _ _ _ _).mono ?_; rintro e w' ⟨rfl, rfl⟩)
  go_ret
  exact ⟨rfl, rfl⟩
set_option maxHeartbeats 400000 in
theorem refIsWhen4_c (n : Int) (w : World) :
    Calls Try.prog 38 #[.int .i64 n] w fun e w' => e = .returned (.bool (when4 n)) ∧ w = w' := by
  unfold when4
  cases e1 : (n == 1) <;> cases e2 : (n == 2)
  all_goals
    go_enter Try.func38, Try.ntmps38
    go_wp2
    go_ret
    exact ⟨rfl, rfl⟩
def kn4 (e : Int) : Bool := (e == 0) || (e == 3)
def sane4 (s : Sp) : Bool := decide (s.lo ≤ s.hi) && (decide (-99999 ≤ s.lo) && decide (s.hi ≤ 99999))
set_option maxHeartbeats 400000 in
theorem isPart4_c (n : Int) (w : World) :
    Calls Try.prog 57 #[.int .i64 n] w fun e w' => e = .returned (.bool (wn n 0 1000)) ∧ w = w' := by
  go_enter Try.func57, Try.ntmps57
  go_wp2_with (go_at_call 37; refine (refWithin4_c _ _ _ _).mono ?_; rintro e w' ⟨rfl, rfl⟩)
  go_ret
  exact ⟨rfl, rfl⟩
set_option maxHeartbeats 800000 in
theorem isRod4_c (ir glo ghi wrg : Int) (Ar : Option Addr) (nr cr : Nat) (Ad : Option Addr) (nd cd : Nat) (n : Int) (w : World) (hnr : nr ≤ 40) :
    Calls Try.prog 39 #[.agg #[.int .i64 ir, .int .i64 glo, .int .i64 ghi, .slice Ar nr cr, .slice Ad nd cd, .int .i64 wrg], .int .i64 n] w fun e w' => e = .returned (.bool (wn n 0 ((nr : Int) - 1))) ∧ Below w.heap.size w w' := by
  have v1 : IntKind.i64.wrap ((nr : Int) - 1) = (nr : Int) - 1 := IntWalk.i64_in _ (by omega)
  go_enter Try.func39, Try.ntmps39
  go_wp2_with (go_at_call 37; refine (refWithin4_c _ _ _ _).mono ?_; rintro e w' ⟨rfl, rfl⟩)
  go_ret
  exact ⟨rfl, by (repeat first | with_reducible assumption | with_reducible exact Below.refl _ _ | (with_reducible refine Below.alloc ?_ ?side _; case side => (first | omega | (with_reducible exact Below.size (by assumption)) | (simp; done) | (simp; omega))) | (with_reducible refine Below.setCell ?_ ?side _; case side => (first | omega | (with_reducible exact Below.size (by assumption)) | (simp; done) | (simp; omega))) | with_reducible refine Below.drew ?_ | with_reducible refine below_drewN ?_ _ | (with_reducible refine below_step (by assumption) ?side ?_; case side => (first | omega | (with_reducible exact Below.size (by assumption)) | (simp; done) | (simp; omega))))⟩
set_option maxHeartbeats 800000 in
theorem same4_c (A B : Option Addr) (n m c d : Nat) (xs ys : List Int) (w : World) (hn : n ≤ 100000) (hm : m ≤ 100000) (HX : IntsAt w A n xs) (HY : IntsAt w B m ys) :
    Calls Try.prog 20 #[.slice A n c, .slice B m d] w fun e w' => e = .returned (.bool (n == m && allN n fun k => iAt xs k == iAt ys k)) ∧ Below w.heap.size w w' := by
  cases e0 : (n == m)
  · have hne : n ≠ m := by simpa using e0
    go_enter Try.func20, Try.ntmps20
    go_wp2
    go_ret
    exact ⟨rfl, by (repeat first | with_reducible assumption | with_reducible exact Below.refl _ _ | refine below_drewN ?_ _ | refine Below.drew ?_ | refine Below.alloc ?_ (by first | omega | (with_reducible exact Below.size (by assumption)) | (simp; done) | (simp; omega)) _ | refine Below.setCell ?_ (by first | omega | (with_reducible exact Below.size (by assumption)) | (simp; done) | (simp; omega)) _ | refine below_step (by assumption) (by first | omega | (with_reducible exact Below.size (by assumption)) | (simp; done) | (simp; omega)) ?_)⟩
  obtain rfl : n = m := by simpa using e0
  go_enter Try.func20, Try.ntmps20
  go_wp2
  go_loopw [5] (fun i (wr : World) => ∃ k : Nat, k ≤ n ∧ i = .int .i64 k ∧ Hid (∀ j, j < k → (iAt xs j == iAt ys j) = true) ∧ Below w.heap.size w wr) (fun i _ => n - (intOf i).toNat)
  case atStart => exact ⟨0, by omega, rfl, fun j hj => absurd hj (by omega), Below.refl _ _⟩
  case round =>
    obtain ⟨k, hk, rfl, H, hb⟩ := hrel
    by_cases hlt : k < n
    · obtain ⟨b, o, rfl, hb1, x0⟩ := (HX.later hb).get hlt
      obtain ⟨b', o', rfl, hb2, y0⟩ := (HY.later hb).get hlt
      have hB : decide ((k : Int) < n) = true := by simp; omega
      cases e1 : (iAt xs k == iAt ys k)
      · have hA : allN n (fun k => iAt xs k == iAt ys k) = false := allN_no hlt e1
        go_wp2
        go_quiet (fail)
        go_wp2
        go_ret
        exact ⟨ret_bool (by rw [hA]; simp), by (repeat first | with_reducible assumption | with_reducible exact Below.refl _ _ | refine below_drewN ?_ _ | refine Below.drew ?_ | refine Below.alloc ?_ (by first | omega | (with_reducible exact Below.size (by assumption)) | (simp; done) | (simp; omega)) _ | refine Below.setCell ?_ (by first | omega | (with_reducible exact Below.size (by assumption)) | (simp; done) | (simp; omega)) _ | refine below_step (by assumption) (by first | omega | (with_reducible exact Below.size (by assumption)) | (simp; done) | (simp; omega)) ?_)⟩
      · go_wp2
        go_quiet (fail)
        go_wp2
        go_roundw
        case rel => exact ⟨k + 1, by omega, by go_num, fun j hj => by
          rcases Nat.lt_succ_iff_lt_or_eq.1 hj with h | rfl
          · exact H.out j h
          · exact e1, by (repeat first | with_reducible assumption | with_reducible exact Below.refl _ _ | refine below_drewN ?_ _ | refine Below.drew ?_ | refine Below.alloc ?_ (by first | omega | (with_reducible exact Below.size (by assumption)) | (simp; done) | (simp; omega)) _ | refine Below.setCell ?_ (by first | omega | (with_reducible exact Below.size (by assumption)) | (simp; done) | (simp; omega)) _ | refine below_step (by assumption) (by first | omega | (with_reducible exact Below.size (by assumption)) | (simp; done) | (simp; omega)) ?_)⟩
        case measure => simp [intOf]; omega
    · obtain rfl : n = k := by omega
      have hA := Lib.hid (allN_iff.2 H.out)
      have hB : decide (((n : Nat) : Int) < n) = false := by simp
      clear H
      go_wp2
      go_ret
      exact ⟨ret_bool (by rw [hA.out]; rfl), by (repeat first | with_reducible assumption | with_reducible exact Below.refl _ _ | refine below_drewN ?_ _ | refine Below.drew ?_ | refine Below.alloc ?_ (by first | omega | (with_reducible exact Below.size (by assumption)) | (simp; done) | (simp; omega)) _ | refine Below.setCell ?_ (by first | omega | (with_reducible exact Below.size (by assumption)) | (simp; done) | (simp; omega)) _ | refine below_step (by assumption) (by first | omega | (with_reducible exact Below.size (by assumption)) | (simp; done) | (simp; omega)) ?_)⟩

end Go.Proofs.Ytmmgkmdfecnkdaa

namespace Go.Proofs.Ytmmgkmdfecnkdaa
open Go.RowKit
open Go.Sort (grow)
set_option linter.unusedVariables false
set_option linter.unusedSimpArgs false

theorem own_blk {w : World} {base g n size : Nat} {e : TypeId} {cs : Array Value} {xs : List Value} (h : Blk w g e cs) (hb : base ≤ g) (hn : n ≤ maxLen) (hs : cs.size = n * size) (hx : cs.toList = xs) : w.ownsRow base e size (.slice (some ⟨g, 0, none⟩) n n) n xs :=
  ⟨by rw [← hx, Array.length_toList, hs], .inr ⟨g, n, cs, rfl, hb, h, Nat.le_refl _, hn, hs, by rw [← hs, ← Array.length_toList, List.take_length, hx]⟩⟩
theorem sl_blk {α : Type} {enc : α → List Value} {size : Nat} {d : α} (hs : ∀ x, (enc x).length = size) {w : World} {cs : Array Value} {e : TypeId} {ys : List α} {g m : Nat} (h : Blk w g e cs) (hl : ys.length = m) (hcs : cs.toList = ys.flatMap enc) :
    SlAt enc size d w (some ⟨g, 0, none⟩) m ys := by
  refine ⟨hl, fun _ => ⟨g, 0, rfl, h.lt, fun k hk j u hu => ?_⟩⟩
  have hj : j < size := by
    have := (List.getElem?_eq_some_iff.1 hu).1
    rwa [hs] at this
  rw [h.cell, Nat.zero_add, ← Array.getElem?_toList, hcs, flat_get (d := d) hs ys k j hj (by omega)]
  exact hu
set_option maxRecDepth 100000 in
set_option maxHeartbeats 3200000 in
theorem Example4_c (w : World) :
    Calls Try.prog 30 #[] w fun e w' => ∃ gr gd, e = .returned (.tuple #[.agg #[.int .i64 12, .int .i64 9900, .int .i64 10200, .slice (some ⟨gr, 0, none⟩) 2 2, .slice (some ⟨gd, 0, none⟩) 2 2, .int .i64 0], .agg #[.int .i64 1, .int .i64 1, .int .i64 20, .int .i64 0, .int .i64 1, .int .i64 20, .int .i64 20]]) ∧
      gr ≠ gd ∧ w.heap.size ≤ gr ∧ w.heap.size ≤ gd ∧ Blk w' gr 49 #[.int .i64 1000, .int .i64 1, .int .i64 12, .int .i64 500, .int .i64 0, .int .i64 20] ∧ Blk w' gd 51 #[.int .i64 1, .int .i64 0, .int .i64 10, .int .i64 0, .int .i64 2, .int .i64 0, .int .i64 0, .int .i64 2, .int .i64 0, .int .i64 10, .int .i64 30, .int .i64 2, .int .i64 0, .int .i64 0] ∧ Below w.heap.size w w' := by
  go_enter Try.func30, Try.ntmps30
  go_upto_region 2 with (fail)
  go_name_world X hX
  have BX : Below w.heap.size w X := (al5 hX).1
  have q4 := (al5_4 hX).2.1
  have l4 := (al5_4 hX).1
  have HB0 : Hid (Blk X w.heap.size 27 #[.int .i64 0, .int .i64 0, .int .i64 0, .slice none 0 0, .slice none 0 0, .int .i64 0]) := by rw [← hX]; exact Lib.hid (((((Blk.new w _ _).alloc _).alloc _).alloc _).alloc _)
  have HB1 : Hid (Blk X (w.heap.size + 1) 51 #[.int .i64 0, .int .i64 0, .int .i64 0, .int .i64 0, .int .i64 0, .int .i64 0, .int .i64 0]) := by
    rw [← hX]
    have := Blk.new (w.alloc (.cells #[.int .i64 0, .int .i64 0, .int .i64 0, .slice none 0 0, .slice none 0 0, .int .i64 0] 27)) 51 #[.int .i64 0, .int .i64 0, .int .i64 0, .int .i64 0, .int .i64 0, .int .i64 0, .int .i64 0]
    simp only [World.size_alloc] at this
    exact Lib.hid (((this.alloc _).alloc _).alloc _)
  have HB2 : Hid (Blk X (w.heap.size + 1 + 1) 49 #[.int .i64 1000, .int .i64 1, .int .i64 12, .int .i64 500, .int .i64 0, .int .i64 20]) := by
    rw [← hX]
    have := Blk.new ((w.alloc (.cells #[.int .i64 0, .int .i64 0, .int .i64 0, .slice none 0 0, .slice none 0 0, .int .i64 0] 27)).alloc (.cells #[.int .i64 0, .int .i64 0, .int .i64 0, .int .i64 0, .int .i64 0, .int .i64 0, .int .i64 0] 51)) 49 #[.int .i64 1000, .int .i64 1, .int .i64 12, .int .i64 500, .int .i64 0, .int .i64 20]
    simp only [World.size_alloc] at this
    exact Lib.hid ((this.alloc _).alloc _)
  have HB3 : Hid (Blk X (w.heap.size + 1 + 1 + 1) 51 #[.int .i64 1, .int .i64 0, .int .i64 10, .int .i64 0, .int .i64 2, .int .i64 0, .int .i64 0, .int .i64 2, .int .i64 0, .int .i64 10, .int .i64 30, .int .i64 2, .int .i64 0, .int .i64 0]) := by
    rw [← hX]
    have := Blk.new (((w.alloc (.cells #[.int .i64 0, .int .i64 0, .int .i64 0, .slice none 0 0, .slice none 0 0, .int .i64 0] 27)).alloc (.cells #[.int .i64 0, .int .i64 0, .int .i64 0, .int .i64 0, .int .i64 0, .int .i64 0, .int .i64 0] 51)).alloc (.cells #[.int .i64 1000, .int .i64 1, .int .i64 12, .int .i64 500, .int .i64 0, .int .i64 20] 49)) 51 #[.int .i64 1, .int .i64 0, .int .i64 10, .int .i64 0, .int .i64 2, .int .i64 0, .int .i64 0, .int .i64 2, .int .i64 0, .int .i64 10, .int .i64 30, .int .i64 2, .int .i64 0, .int .i64 0]
    simp only [World.size_alloc] at this
    exact Lib.hid (this.alloc _)
  have k0 := HB0.out.cell
  have f0 := HB0.out.frozen
  have l0 := HB0.out.lt
  have k1 := HB1.out.cell
  have f1 := HB1.out.frozen
  have l1 := HB1.out.lt
  clear hX
  go_wp2_with fail
  have hb0 := (((((((((((((HB0.out.set_ 0 (.int .i64 12)).set_ 1 (.int .i64 9900)).set_ 2 (.int .i64 10200)).set_ 3 (.slice (some ⟨w.heap.size + 1 + 1, 0, none⟩) 2 2)).set_ 4 (.slice (some ⟨w.heap.size + 1 + 1 + 1, 0, none⟩) 2 2)).set_ 5 (.int .i64 0)).far (p := ⟨w.heap.size + 1, 0, none⟩) (by simp) (.int .i64 1)).far (p := ⟨w.heap.size + 1, 1, none⟩) (by simp) (.int .i64 1)).far (p := ⟨w.heap.size + 1, 2, none⟩) (by simp) (.int .i64 20)).far (p := ⟨w.heap.size + 1, 3, none⟩) (by simp) (.int .i64 0)).far (p := ⟨w.heap.size + 1, 4, none⟩) (by simp) (.int .i64 1)).far (p := ⟨w.heap.size + 1, 5, none⟩) (by simp) (.int .i64 20)).far (p := ⟨w.heap.size + 1, 6, none⟩) (by simp) (.int .i64 20))
  have hb1 := (((((((((((((HB1.out.far (p := ⟨w.heap.size, 0, none⟩) (by simp) (.int .i64 12)).far (p := ⟨w.heap.size, 1, none⟩) (by simp) (.int .i64 9900)).far (p := ⟨w.heap.size, 2, none⟩) (by simp) (.int .i64 10200)).far (p := ⟨w.heap.size, 3, none⟩) (by simp) (.slice (some ⟨w.heap.size + 1 + 1, 0, none⟩) 2 2)).far (p := ⟨w.heap.size, 4, none⟩) (by simp) (.slice (some ⟨w.heap.size + 1 + 1 + 1, 0, none⟩) 2 2)).far (p := ⟨w.heap.size, 5, none⟩) (by simp) (.int .i64 0)).set_ 0 (.int .i64 1)).set_ 1 (.int .i64 1)).set_ 2 (.int .i64 20)).set_ 3 (.int .i64 0)).set_ 4 (.int .i64 1)).set_ 5 (.int .i64 20)).set_ 6 (.int .i64 20))
  have hb2 := Lib.hid ((((((((((((((HB2.out.far (p := ⟨w.heap.size, 0, none⟩) (by show w.heap.size + 1 + 1 ≠ _; simp; try omega) (.int .i64 12)).far (p := ⟨w.heap.size, 1, none⟩) (by show w.heap.size + 1 + 1 ≠ _; simp; try omega) (.int .i64 9900)).far (p := ⟨w.heap.size, 2, none⟩) (by show w.heap.size + 1 + 1 ≠ _; simp; try omega) (.int .i64 10200)).far (p := ⟨w.heap.size, 3, none⟩) (by show w.heap.size + 1 + 1 ≠ _; simp; try omega) (.slice (some ⟨w.heap.size + 1 + 1, 0, none⟩) 2 2)).far (p := ⟨w.heap.size, 4, none⟩) (by show w.heap.size + 1 + 1 ≠ _; simp; try omega) (.slice (some ⟨w.heap.size + 1 + 1 + 1, 0, none⟩) 2 2)).far (p := ⟨w.heap.size, 5, none⟩) (by show w.heap.size + 1 + 1 ≠ _; simp; try omega) (.int .i64 0)).far (p := ⟨w.heap.size + 1, 0, none⟩) (by show w.heap.size + 1 + 1 ≠ _; simp; try omega) (.int .i64 1)).far (p := ⟨w.heap.size + 1, 1, none⟩) (by show w.heap.size + 1 + 1 ≠ _; simp; try omega) (.int .i64 1)).far (p := ⟨w.heap.size + 1, 2, none⟩) (by show w.heap.size + 1 + 1 ≠ _; simp; try omega) (.int .i64 20)).far (p := ⟨w.heap.size + 1, 3, none⟩) (by show w.heap.size + 1 + 1 ≠ _; simp; try omega) (.int .i64 0)).far (p := ⟨w.heap.size + 1, 4, none⟩) (by show w.heap.size + 1 + 1 ≠ _; simp; try omega) (.int .i64 1)).far (p := ⟨w.heap.size + 1, 5, none⟩) (by show w.heap.size + 1 + 1 ≠ _; simp; try omega) (.int .i64 20)).far (p := ⟨w.heap.size + 1, 6, none⟩) (by show w.heap.size + 1 + 1 ≠ _; simp; try omega) (.int .i64 20)))
  have hb3 := Lib.hid ((((((((((((((HB3.out.far (p := ⟨w.heap.size, 0, none⟩) (by show w.heap.size + 1 + 1 + 1 ≠ _; simp; try omega) (.int .i64 12)).far (p := ⟨w.heap.size, 1, none⟩) (by show w.heap.size + 1 + 1 + 1 ≠ _; simp; try omega) (.int .i64 9900)).far (p := ⟨w.heap.size, 2, none⟩) (by show w.heap.size + 1 + 1 + 1 ≠ _; simp; try omega) (.int .i64 10200)).far (p := ⟨w.heap.size, 3, none⟩) (by show w.heap.size + 1 + 1 + 1 ≠ _; simp; try omega) (.slice (some ⟨w.heap.size + 1 + 1, 0, none⟩) 2 2)).far (p := ⟨w.heap.size, 4, none⟩) (by show w.heap.size + 1 + 1 + 1 ≠ _; simp; try omega) (.slice (some ⟨w.heap.size + 1 + 1 + 1, 0, none⟩) 2 2)).far (p := ⟨w.heap.size, 5, none⟩) (by show w.heap.size + 1 + 1 + 1 ≠ _; simp; try omega) (.int .i64 0)).far (p := ⟨w.heap.size + 1, 0, none⟩) (by show w.heap.size + 1 + 1 + 1 ≠ _; simp; try omega) (.int .i64 1)).far (p := ⟨w.heap.size + 1, 1, none⟩) (by show w.heap.size + 1 + 1 + 1 ≠ _; simp; try omega) (.int .i64 1)).far (p := ⟨w.heap.size + 1, 2, none⟩) (by show w.heap.size + 1 + 1 + 1 ≠ _; simp; try omega) (.int .i64 20)).far (p := ⟨w.heap.size + 1, 3, none⟩) (by show w.heap.size + 1 + 1 + 1 ≠ _; simp; try omega) (.int .i64 0)).far (p := ⟨w.heap.size + 1, 4, none⟩) (by show w.heap.size + 1 + 1 + 1 ≠ _; simp; try omega) (.int .i64 1)).far (p := ⟨w.heap.size + 1, 5, none⟩) (by show w.heap.size + 1 + 1 + 1 ≠ _; simp; try omega) (.int .i64 20)).far (p := ⟨w.heap.size + 1, 6, none⟩) (by show w.heap.size + 1 + 1 + 1 ≠ _; simp; try omega) (.int .i64 20)))
  have d0 := hb0.cell 0
  have d1 := hb0.cell 1
  have d2 := hb0.cell 2
  have d3 := hb0.cell 3
  have d4 := hb0.cell 4
  have d5 := hb0.cell 5
  have e0 := hb1.cell 0
  have e1 := hb1.cell 1
  have e2 := hb1.cell 2
  have e3 := hb1.cell 3
  have e4 := hb1.cell 4
  have e5 := hb1.cell 5
  have e6 := hb1.cell 6
  simp only [List.setIfInBounds_toArray, List.set_cons_zero, List.set_cons_succ] at d0 d1 d2 d3 d4 d5 e0 e1 e2 e3 e4 e5 e6
  clear hb0 hb1 k0 k1 f0 f1 q4
  exact bodyPost_ret (v := .tuple #[.agg #[.int .i64 12, .int .i64 9900, .int .i64 10200, .slice (some ⟨w.heap.size + 1 + 1, 0, none⟩) 2 2, .slice (some ⟨w.heap.size + 1 + 1 + 1, 0, none⟩) 2 2, .int .i64 0], .agg #[.int .i64 1, .int .i64 1, .int .i64 20, .int .i64 0, .int .i64 1, .int .i64 20, .int .i64 20]]) (by simp [results, Try.results30, go_sem, d0, d1, d2, d3, d4, d5, e0, e1, e2, e3, e4, e5, e6]) rfl ⟨_, _, rfl, by omega, by omega, by omega, hb2.out, hb3.out, by (repeat first | with_reducible assumption | with_reducible exact Below.refl _ _ | (with_reducible refine Below.alloc ?_ ?side _; case side => (first | omega | (with_reducible exact Below.size (by assumption)) | (simp; done) | (simp; omega))) | (with_reducible refine Below.setCell ?_ ?side _; case side => (first | omega | (with_reducible exact Below.size (by assumption)) | (simp; done) | (simp; omega))) | with_reducible refine Below.drew ?_ | with_reducible refine below_drewN ?_ _ | (with_reducible refine below_step (by assumption) ?side ?_; case side => (first | omega | (with_reducible exact Below.size (by assumption)) | (simp; done) | (simp; omega))))⟩

theorem ro4E : ElemT Try.prog 24 49 3 24 := by
  obtain ⟨i0, hi0, hz0, hz1, hz2⟩ := info_parts (P := Try.prog) (show (Try.prog.info? 49).map (fun i => (i.zero, i.size, i.bytes)) = some (some (.agg #[.int .i64 0, .int .i64 0, .int .i64 0]), 3, 24) by kernel_rfl)
  exact ⟨Try.underlying24, ⟨i0, _, hi0, hz0, hz1, hz2, rfl⟩, by omega, by omega⟩
theorem re4E : ElemT Try.prog 25 51 7 56 := by
  obtain ⟨i0, hi0, hz0, hz1, hz2⟩ := info_parts (P := Try.prog) (show (Try.prog.info? 51).map (fun i => (i.zero, i.size, i.bytes)) = some (some (.agg #[.int .i64 0, .int .i64 0, .int .i64 0, .int .i64 0, .int .i64 0, .int .i64 0, .int .i64 0]), 7, 56) by kernel_rfl)
  exact ⟨Try.underlying25, ⟨i0, _, hi0, hz0, hz1, hz2, rfl⟩, by omega, by omega⟩
theorem ev_same4 : (2 == 2 && allN 2 fun k => iAt [10001, 10002] k == iAt [10001, 10002] k) = true := by decide
/-- what lies in memory: the pull, the reading, the rods -/
structure Dw4 (g gr : Nat) (v : Value) (V : World) : Prop where
  p : Blk V g 27 #[.int .i64 12, .int .i64 9900, .int .i64 10200, .slice (some ⟨gr, 0, none⟩) 2 2, v, .int .i64 0]
  m : Blk V (g + 1) 51 #[.int .i64 1, .int .i64 1, .int .i64 20, .int .i64 0, .int .i64 1, .int .i64 20, .int .i64 20]
  r : Blk V gr 49 #[.int .i64 1000, .int .i64 1, .int .i64 12, .int .i64 500, .int .i64 0, .int .i64 20]
theorem Dw4.below {g gr : Nat} {v : Value} {V V' : World} (h : Dw4 g gr v V) (hb : Below V.heap.size V V') : Dw4 g gr v V' := ⟨h.p.below hb h.p.lt, h.m.below hb h.m.lt, h.r.below hb h.r.lt⟩
set_option maxRecDepth 100000 in
set_option maxHeartbeats 3200000 in
theorem works4_c (w : World) :
    Calls Try.prog 6 #[] w fun e w' => e = .returned (.bool true) ∧ Below w.heap.size w w' := by
  have c1 : ∀ (Ar Ad : Option Addr) (W : World), MemP Ar 2 Ad 2 exP W → Calls Try.prog 12 #[.agg #[.int .i64 12, .int .i64 9900, .int .i64 10200, .slice Ar 2 2, .slice Ad 2 2, .int .i64 0]] W fun e W' => e = .returned (.tuple #[.int .i64 50, .int .i64 0]) ∧ Below W.heap.size W W' := fun Ar Ad W h => by
    have := many4_c Ar 2 2 Ad 2 2 exP W (by omega) (by omega) h (fun _ => exP_len)
    rw [exP_many, exP_op] at this
    exact this
  have c2 : ∀ (Ar Ad : Option Addr) (W : World), MemP Ar 2 Ad 2 exP W → Calls Try.prog 26 #[.agg #[.int .i64 12, .int .i64 9900, .int .i64 10200, .slice Ar 2 2, .slice Ad 2 2, .int .i64 0]] W fun e W' => e = .returned (.tuple #[.int .i64 4, .int .i64 0]) ∧ Below W.heap.size W W' := fun Ar Ad W h => by
    have := best4_c Ar 2 2 Ad 2 2 exP W (by omega) (by omega) h (fun _ => exP_len)
    rw [exP_bev, exP_bee] at this
    exact this
  have c3 : ∀ (Ar Ad : Option Addr) (cd : Nat) (W : World), MemP Ar 2 Ad 3 exQ W → Calls Try.prog 22 #[.agg #[.int .i64 12, .int .i64 9900, .int .i64 10200, .slice Ar 2 2, .slice Ad 3 cd, .int .i64 0]] W fun e W' => e = .returned (.tuple #[.agg #[.int .i64 26, .int .i64 31], .int .i64 0]) ∧ Below W.heap.size W W' := fun Ar Ad cd W h => by
    have := stretch4_c Ar 2 2 Ad 3 cd exQ W (by omega) (by omega) h (fun _ => exQ_len)
    rw [exQ_st.1, exQ_st.2, exQ_op] at this
    exact this
  have c4 : ∀ (Ar Ad : Option Addr) (cd : Nat) (W : World), MemP Ar 2 Ad 3 exQ W → Calls Try.prog 14 #[.agg #[.int .i64 12, .int .i64 9900, .int .i64 10200, .slice Ar 2 2, .slice Ad 3 cd, .int .i64 0], .int .i64 1] W fun e W' => ∃ A c, e = .returned (.tuple #[.slice A 2 c, .int .i64 0]) ∧ IntsAt W' A 2 [10001, 10002] ∧ Below W.heap.size W W' := fun Ar Ad cd W h => by
    have := lengths4_c Ar 2 2 Ad 3 cd exQ 1 W (by omega) (by omega) h (fun _ => exQ_len)
    rw [exQ_lg, exQ_w1] at this
    exact this
  replace c1 := Lib.hid c1
  replace c2 := Lib.hid c2
  replace c3 := Lib.hid c3
  replace c4 := Lib.hid c4
  go_enter Try.func6, Try.ntmps6
  go_wp2_with fail
  refine (Example4_c _).mono ?_
  rintro e w1 ⟨gr, gd, rfl, hne, hgr, hgd, hR, hD, hb1⟩
  have lr := hR.lt
  have ld := hD.lt
  have HB1 := Lib.hid hb1
  go_upto_region 2 with (fail)
  go_name_world W hW
  have BW := (al2 hW).1
  have HDW : Hid (Dw4 w1.heap.size gr (.slice (some ⟨gd, 0, none⟩) 2 2) W) := by
    refine Lib.hid ⟨?_, ?_, hR.below BW lr⟩
    · rw [← hW]; exact (Blk.new w1 _ _).alloc _
    · rw [← hW]
      have := Blk.new (w1.alloc (.cells #[.int .i64 12, .int .i64 9900, .int .i64 10200, .slice (some ⟨gr, 0, none⟩) 2 2, .slice (some ⟨gd, 0, none⟩) 2 2, .int .i64 0] 27)) 51 #[.int .i64 1, .int .i64 1, .int .i64 20, .int .i64 0, .int .i64 1, .int .i64 20, .int .i64 20]
      rw [World.size_alloc] at this
      exact this
  have HRD : Hid (Blk W gd 51 #[.int .i64 1, .int .i64 0, .int .i64 10, .int .i64 0, .int .i64 2, .int .i64 0, .int .i64 0, .int .i64 2, .int .i64 0, .int .i64 10, .int .i64 30, .int .i64 2, .int .i64 0, .int .i64 0]) := Lib.hid (hD.below BW ld)
  have HBW := Lib.hid (hb1.trans (BW.mono hb1.size))
  clear hW hR hD hb1 BW
  have MM := Lib.hid (fun V (hV : Below W.heap.size W V) => (⟨sl_blk encR4_len ((HDW.out.below hV).r) rfl rfl, sl_blk encE4_len (HRD.out.below hV HRD.out.lt) rfl rfl⟩ : MemP (some ⟨gr, 0, none⟩) 2 (some ⟨gd, 0, none⟩) 2 exP V))
  have k1 := HDW.out.p.cell
  have l1 := HDW.out.p.lt
  go_upto_region 3 with (go_at_call 12; refine (c1.out _ _ W (MM.out W (Below.refl _ _))).mono ?_; (rintro e w2 ⟨rfl, hb2⟩); (have D2 := Lib.hid (HDW.out.below hb2)); (have k2 := D2.out.p.cell); (have l2 := D2.out.p.lt); have HB2 := Lib.hid hb2; clear hb2 k1)
  go_upto_region 4 with (go_at_call 26; refine (c2.out _ _ w2 (MM.out w2 HB2.out)).mono ?_; (rintro e w3 ⟨rfl, hb3⟩); (have D3 := Lib.hid (D2.out.below hb3)); (have k3 := D3.out.p.cell); (have l3 := D3.out.p.lt); (have HB3 := Lib.hid (HB2.out.trans (hb3.mono HB2.out.size))); clear hb3 k2)
  have km := D3.out.m.cell
  have lm := D3.out.m.lt
  have fm := D3.out.p.frozen
  have HR3 : Hid (Blk w3 gd 51 #[.int .i64 1, .int .i64 0, .int .i64 10, .int .i64 0, .int .i64 2, .int .i64 0, .int .i64 0, .int .i64 2, .int .i64 0, .int .i64 10, .int .i64 30, .int .i64 2, .int .i64 0, .int .i64 0]) := Lib.hid (HRD.out.below HB3.out HRD.out.lt)
  have lg3 := HR3.out.lt
  go_wp2_with (at_builtin; go_must (refine wpList_append_T _ (d := (⟨0, 0, 0, 0, 0, 0, 0⟩ : Re4)) rfl (.tmp 26) (.tmp 28) _ rfl w.heap.size _ 7 56 re4E encE4_len encE4_one (.slice (some ⟨gd, 0, none⟩) 2 2) (some gd) 2 exP.res rfl rfl ?ow _ 1 _ [⟨1, 1, 20, 0, 1, 20, 20⟩] rfl ?sl (by omega) ?bs ?mn))
  case sl => exact sl_new encE4_len (by simp) rfl rfl
  case bs => simp; omega
  case ow => exact World.ownsRow.alloc (own_blk HR3.out hgd (by unfold maxLen; omega) rfl rfl) _
  case mn =>
    intro v' w4 hown4 hg4 hat4
    have hown5 : w4.ownsRow w.heap.size 51 7 v' 3 (exQ.res.flatMap encE4) := hown4
    clear hown4
    obtain ⟨A5, c5, rfl, -, hs5⟩ := SlAt.of_own (d := (⟨0, 0, 0, 0, 0, 0, 0⟩ : Re4)) encE4_len hown5 rfl
    clear hs5
    have z4 := hg4.size
    simp only [World.size_alloc] at z4
    have hK : ∀ g, g < w3.heap.size → g ≠ gd → w4.heap[g]? = w3.heap[g]? := fun g hg hn => (hg4.block g (by simp; omega) (by simpa using hn)).trans (heap_alloc_old w3 _ g hg)
    have HP4 : Hid (Blk w4 w1.heap.size 27 #[.int .i64 12, .int .i64 9900, .int .i64 10200, .slice (some ⟨gr, 0, none⟩) 2 2, .slice (some ⟨gd, 0, none⟩) 2 2, .int .i64 0]) := Lib.hid ((hK _ l3 (by omega)).trans D3.out.p)
    have HM4 : Hid (Blk w4 (w1.heap.size + 1) 51 #[.int .i64 1, .int .i64 1, .int .i64 20, .int .i64 0, .int .i64 1, .int .i64 20, .int .i64 20]) := Lib.hid ((hK _ lm (by omega)).trans D3.out.m)
    have HR4 : Hid (Blk w4 gr 49 #[.int .i64 1000, .int .i64 1, .int .i64 12, .int .i64 500, .int .i64 0, .int .i64 20]) := Lib.hid ((hK _ D3.out.r.lt hne).trans D3.out.r)
    have HB4 := Lib.hid (Below.grown ((HBW.out.trans (HB3.out.mono HBW.out.size)).alloc (by have := HBW.out.size; have := HB3.out.size; omega) _) hg4 (by have := HBW.out.size; have := HB3.out.size; simp; omega) (fun k hk => by cases hk; exact hgd))
    have k4 := HP4.out.cell
    have f4 := HP4.out.frozen
    have l4 := HP4.out.lt
    have hob : ∀ k, (Value.slice A5 3 c5).ownBlock = some k → k ≠ w1.heap.size := fun k hk => by
      rcases hat4 with h | h
      · rw [h] at hk; cases hk; omega
      · rw [h] at hk; cases hk; simp; omega
    clear k3 km fm hg4 hat4 hK
    go_upto_region 5 with (fail)
    go_name_world V5 hV5
    have z5 : V5.heap.size = w4.heap.size := by rw [← hV5]; simp
    have HO5 : Hid (V5.ownsRow w.heap.size 51 7 (.slice A5 3 c5) 3 (exQ.res.flatMap encE4)) := by rw [← hV5]; exact Lib.hid (own_set hown5 hob)
    have hs5 := SlAt.of_own (d := (⟨0, 0, 0, 0, 0, 0, 0⟩ : Re4)) encE4_len HO5.out rfl
    obtain ⟨A6, c6, e6, -, hs5⟩ := hs5
    cases e6
    have HS5 := Lib.hid hs5
    have D5 : Hid (Dw4 w1.heap.size gr (.slice A5 3 c5) V5) := by
      rw [← hV5]
      refine Lib.hid ⟨by simpa using HP4.out.set_ 4 (.slice A5 3 c5), HM4.out.far (by simp) _, HR4.out.far (by show gr ≠ w1.heap.size; omega) _⟩
    have HB5 : Hid (Below w.heap.size w V5) := by rw [← hV5]; exact Lib.hid (HB4.out.setCell (by show w.heap.size ≤ w1.heap.size; omega) _)
    have M5 := Lib.hid (fun V (hV : Below V5.heap.size V5 V) => (⟨sl_blk encR4_len ((D5.out.below hV).r) rfl rfl, (show ResAt V5 A5 3 exQ.res from HS5.out).later hV⟩ : MemP (some ⟨gr, 0, none⟩) 2 A5 3 exQ V))
    have k5 := D5.out.p.cell
    have l5 := D5.out.p.lt
    clear hV5 hown5 hob k4 f4 l4 hs5 z4 lm lg3 l3
    go_upto_region 6 with (go_at_call 22; refine (c3.out _ _ _ V5 (M5.out V5 (Below.refl _ _))).mono ?_; (rintro e w6 ⟨rfl, hb6⟩); (have D6 := Lib.hid (D5.out.below hb6)); have HB6 := Lib.hid hb6; clear hb6 k5)
    go_name_world V6 hV6
    have b6 := (al1 hV6).1
    have HS6 : Hid (Blk V6 w6.heap.size 23 #[.int .i64 26, .int .i64 31]) := by rw [← hV6]; exact Lib.hid (Blk.new _ _ _)
    have D7 := Lib.hid (D6.out.below b6)
    have HB7 := Lib.hid (HB6.out.trans (b6.mono HB6.out.size))
    have k7 := D7.out.p.cell
    have l7 := D7.out.p.lt
    clear hV6 b6
    go_upto_region 7 with (go_at_call 14; refine (c4.out _ _ _ V6 (M5.out V6 HB7.out)).mono ?_; (rintro e w8 ⟨A8, c8, rfl, hI8, hb8⟩); (have HS8 := Lib.hid (HS6.out.below hb8 HS6.out.lt)); (have k8 := HS8.out.cell); (have l8 := HS8.out.lt); (have HI8 := Lib.hid hI8); (have HB8 := Lib.hid (HB7.out.trans (hb8.mono HB7.out.size))); clear hb8 hI8 k7)
    go_wp2_with (go_at_call 20; refine (same4_c A8 (some ⟨w8.heap.size, 0, none⟩) 2 2 c8 2 [10001, 10002] [10001, 10002] _ (by omega) (by omega) (HI8.out.later (by (repeat first | with_reducible assumption | with_reducible exact Below.refl _ _ | (with_reducible refine Below.alloc ?_ ?side _; case side => (first | omega | (with_reducible exact Below.size (by assumption)) | (simp; done) | (simp; omega))) | (with_reducible refine Below.setCell ?_ ?side _; case side => (first | omega | (with_reducible exact Below.size (by assumption)) | (simp; done) | (simp; omega))) | with_reducible refine Below.drew ?_ | with_reducible refine below_drewN ?_ _ | (with_reducible refine below_step (by assumption) ?side ?_; case side => (first | omega | (with_reducible exact Below.size (by assumption)) | (simp; done) | (simp; omega)))))) (ints_iff.2 (sl_new encI_len rfl rfl rfl))).mono ?_; rw [ev_same4]; (rintro e w9 ⟨rfl, hb9⟩))
    go_ret
    refine ⟨rfl, ?_⟩
    have x1 := HB5.out.trans (HB8.out.mono HB5.out.size)
    exact (x1.alloc x1.size _).trans (hb9.mono (by have := x1.size; simp; omega))

end Go.Proofs.Ytmmgkmdfecnkdaa
