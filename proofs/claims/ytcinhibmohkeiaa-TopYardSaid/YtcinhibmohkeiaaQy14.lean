/- The small functions of checks (layer 5): within, has, many, isMachine; The closures of truths and agrees (layer 5); IndexFunc and ContainsFunc over machines and comparisons (layer 5). -/
import Derived.Test.YtcinhibmohkeiaaQy09
import Derived.Test.YtcinhibmohkeiaaQy11
import Derived.Shelf.Abstract
import Derived.Laws.EntriesVeiled
import Derived.Handy
import Derived.Deep.DrawnRows
import Derived.Deep.DeepCutAuto
import Derived.Test.YtcinhibmohkeiaaQy13
namespace Go.Proofs.Ytcinhibmohkeiaa
open Go.RowKit
open Go.Sort (grow)
set_option linter.unusedVariables false
set_option linter.unusedSimpArgs false

set_option maxHeartbeats 400000 in
theorem within5_c (n a b : Int) (w : World) :
    Calls Try.prog 23 #[.int .i64 n, .int .i64 a, .int .i64 b] w fun e w' => e = .returned (.bool (wn n a b)) ∧ w = w' := by
  go_enter Try.func23, Try.ntmps23
  go_wp2
  all_goals
    go_ret
    exact ⟨ret_bool (by simp [wn, *] <;> omega), rfl⟩
set_option maxHeartbeats 400000 in
theorem has5_c (x k : Nat) (w : World) (hx : x < 65536) (hk : k < 64) :
    Calls Try.prog 29 #[.int .u64 x, .int .i64 k] w fun e w' => e = .returned (.bool (x.testBit k)) ∧ w = w' := by
  go_enter Try.func29, Try.ntmps29
  go_wp2
  go_ret
  exact ⟨ret_bool (by rw [bit_u64 x k hx]), rfl⟩
set_option maxHeartbeats 400000 in
theorem many5_c (s : Nat) (w : World) (hs : s < 256) :
    Calls Try.prog 50 #[.int .u64 s] w fun e w' => e = .returned (.int .i64 (cnt 8 s)) ∧ w = w' := by
  go_enter Try.func50, Try.ntmps50
  go_wp2_with (go_at_call 62; refine (ones_c _ _ hs).mono ?_; rintro e w' ⟨rfl, rfl⟩)
  go_ret
  exact ⟨rfl, rfl⟩
set_option maxHeartbeats 800000 in
theorem isMachine_c (A : Option Addr) (n c : Nat) (B : Option Addr) (m d : Nat) (wr x : Int) (w : World) (hn : n ≤ 1000) :
    Calls Try.prog 31 #[.agg #[.slice A n c, .slice B m d, .int .i64 wr], .int .i64 x] w fun e w' => e = .returned (.bool (wn x 0 ((n : Int) - 1))) ∧ Below w.heap.size w w' := by
  have v1 : IntKind.i64.wrap ((n : Int) - 1) = (n : Int) - 1 := IntWalk.i64_in _ (by omega)
  have hw := Lib.hid (fun V => within5_c x 0 ((n : Int) - 1) V)
  go_enter Try.func31, Try.ntmps31
  go_upto_region 1 with (fail)
  go_name_world X hX
  have BX := Lib.hid (al1 hX).1
  have q0 := (al1_0 hX).2.1
  have l0 := (al1_0 hX).1
  clear hX
  go_wp2_with (go_at_call 23; refine (hw.out _).mono ?_; rintro e w' ⟨rfl, rfl⟩)
  go_ret
  exact ⟨rfl, BX.out⟩

end Go.Proofs.Ytcinhibmohkeiaa

namespace Go.Proofs.Ytcinhibmohkeiaa
open Go.RowKit
open Go.Sort (grow)
set_option linter.unusedVariables false
set_option linter.unusedSimpArgs false

set_option maxHeartbeats 400000 in
theorem truths11_c (g s k : Nat) (w : World) (hs : s < 65536) (hk : k < 64) (hg : w.cell? ⟨g, 0, none⟩ = some (.int .u64 s)) :
    Calls Try.prog 65 #[.int .i64 k, .pointer (some ⟨g, 0, none⟩)] w fun e w' => e = .returned (.bool (!s.testBit k)) ∧ w = w' := by
  have hh := Lib.hid (fun V => has5_c s k V hs hk)
  obtain ⟨b, hb⟩ : ∃ b, s.testBit k = b := ⟨_, rfl⟩
  rw [hb] at hh ⊢
  clear hb
  go_enter Try.func65, Try.ntmps65
  go_wp2_with (go_at_call 29; refine (hh.out _).mono ?_; rintro e w' ⟨rfl, rfl⟩)
  go_ret
  exact ⟨rfl, rfl⟩
set_option maxHeartbeats 400000 in
theorem agrees1_c (B g : Nat) (fst cap : Array Value) (k : Nat) (r : Bool) (w : World) (hB : B < w.heap.size) (hc : w.cell? ⟨B, 0, none⟩ = some (.func (.func g) fst cap))
    (HE : ∀ args w, (callFunc g args).run Try.prog w = .ok (.enter g args) w)
    (HF : Calls Try.prog g (fst.push (.int .i64 k) ++ cap) w fun e w'' => e = .returned (.bool r) ∧ Below w.heap.size w w'') :
    Calls Try.prog 53 #[.int .i64 k, .pointer (some ⟨B, 0, none⟩)] w fun e w' => e = .returned (.bool (!r)) ∧ Below w.heap.size w w' := by
  have HFI := Lib.hid HF
  clear HF
  go_enter Try.func53, Try.ntmps53
  go_wp2_with fail
  refine HFI.out.mono ?_
  rintro e w1 ⟨rfl, hb1⟩
  go_wp2_with fail
  go_ret
  exact ⟨rfl, hb1⟩

end Go.Proofs.Ytcinhibmohkeiaa

namespace Go.Proofs.Ytcinhibmohkeiaa
open Go.RowKit
open Go.Sort (grow)
set_option linter.unusedVariables false
set_option linter.unusedSimpArgs false

set_option maxHeartbeats 400000 in
theorem indexFunc5Sp_c (A : Option Addr) (n c g : Nat) (fst cap : Array Value) (xs : List Sp) (p : Nat → Bool) (w : World) (hn : n ≤ 40) (HX : SpsAt w A n xs)
    (HE : ∀ args w, (callFunc g args).run Try.prog w = .ok (.enter g args) w)
    (HF : ∀ k, k < n → ∀ w', Below w.heap.size w w' → Calls Try.prog g (fst.push (.agg #[.int .i64 (spAt xs k).lo, .int .i64 (spAt xs k).hi]) ++ cap) w' fun e w'' => e = .returned (.bool (p k)) ∧ Below w'.heap.size w' w'') :
    Calls Try.prog 60 #[.slice A n c, .func (.func g) fst cap] w fun e w' => e = .returned (.int .i64 (idxN n p)) ∧ Below w.heap.size w w' := by
  have HFI := Lib.hid HF
  have HXI := Lib.hid HX
  clear HF HX
  go_enter Try.func60, Try.ntmps60
  go_wp2
  go_loopw [8] (fun i (wr : World) => ∃ k : Nat, k ≤ n ∧ i = .int .i64 k ∧ Hid (∀ j, j < k → p j = false) ∧ Below w.heap.size w wr) (fun i _ => n - (intOf i).toNat)
  case atStart => exact ⟨0, by omega, rfl, fun j hj => absurd hj (by omega), Below.refl _ _⟩
  case round =>
    obtain ⟨k, hk, rfl, H1, hb⟩ := hrel
    have zb := hb.size
    by_cases hlt : k < n
    · obtain ⟨bp, op, rfl, hbp, x0, x1⟩ := (HXI.out.later hb).get hlt
      go_wp2_with fail
      refine (HFI.out k hlt _ hb).mono ?_
      (rintro e w1 ⟨rfl, hb1⟩; obtain ⟨hc1, hf1⟩ := bcell hb1; have zs1 := hb1.size; (try simp at zs1))
      go_wp2
      all_goals first
        | (go_roundw
           case rel => exact ⟨k + 1, by omega, by go_num, fun j hj => by
             rcases Nat.lt_succ_iff_lt_or_eq.1 hj with h | rfl
             · exact H1.out j h
             · rename_i h; simpa using h, by (repeat first | with_reducible assumption | with_reducible exact Below.refl _ _ | refine below_drewN ?_ _ | refine Below.drew ?_ | refine Below.alloc ?_ (by first | omega | (with_reducible exact Below.size (by assumption)) | (simp; done) | (simp; omega)) _ | refine Below.setCell ?_ (by first | omega | (with_reducible exact Below.size (by assumption)) | (simp; done) | (simp; omega)) _ | refine below_step (by assumption) (by first | omega | (with_reducible exact Below.size (by assumption)) | (simp; done) | (simp; omega)) ?_)⟩
           case measure => simp [intOf]; omega)
        | (go_ret
           rename_i h
           exact ⟨ret_int (idxN_some hlt (by simpa using h) H1.out).symm, by (repeat first | with_reducible assumption | with_reducible exact Below.refl _ _ | refine below_drewN ?_ _ | refine Below.drew ?_ | refine Below.alloc ?_ (by first | omega | (with_reducible exact Below.size (by assumption)) | (simp; done) | (simp; omega)) _ | refine Below.setCell ?_ (by first | omega | (with_reducible exact Below.size (by assumption)) | (simp; done) | (simp; omega)) _ | refine below_step (by assumption) (by first | omega | (with_reducible exact Below.size (by assumption)) | (simp; done) | (simp; omega)) ?_)⟩)
    · obtain rfl : n = k := by omega
      go_wp2
      go_ret
      exact ⟨ret_int (idxN_none H1.out).symm, by (repeat first | with_reducible assumption | with_reducible exact Below.refl _ _ | refine below_drewN ?_ _ | refine Below.drew ?_ | refine Below.alloc ?_ (by first | omega | (with_reducible exact Below.size (by assumption)) | (simp; done) | (simp; omega)) _ | refine Below.setCell ?_ (by first | omega | (with_reducible exact Below.size (by assumption)) | (simp; done) | (simp; omega)) _ | refine below_step (by assumption) (by first | omega | (with_reducible exact Below.size (by assumption)) | (simp; done) | (simp; omega)) ?_)⟩
set_option maxHeartbeats 400000 in
theorem containsFunc5Sp_c (A : Option Addr) (n c g : Nat) (fst cap : Array Value) (xs : List Sp) (p : Nat → Bool) (w : World) (hn : n ≤ 40) (HX : SpsAt w A n xs)
    (HE : ∀ args w, (callFunc g args).run Try.prog w = .ok (.enter g args) w)
    (HF : ∀ k, k < n → ∀ w', Below w.heap.size w w' → Calls Try.prog g (fst.push (.agg #[.int .i64 (spAt xs k).lo, .int .i64 (spAt xs k).hi]) ++ cap) w' fun e w'' => e = .returned (.bool (p k)) ∧ Below w'.heap.size w' w'') :
    Calls Try.prog 47 #[.slice A n c, .func (.func g) fst cap] w fun e w' => e = .returned (.bool (anyN n p)) ∧ Below w.heap.size w w' := by
  have HC := Lib.hid (indexFunc5Sp_c A n c g fst cap xs p w hn HX HE HF)
  clear HF HX
  go_enter Try.func47, Try.ntmps47
  go_wp2_with fail
  refine HC.out.mono ?_
  (rintro e w1 ⟨rfl, hb1⟩; obtain ⟨hc1, hf1⟩ := bcell hb1; have zs1 := hb1.size; (try simp at zs1))
  go_wp2
  go_ret
  exact ⟨ret_bool idxN_ge, by (repeat first | with_reducible assumption | with_reducible exact Below.refl _ _ | refine below_drewN ?_ _ | refine Below.drew ?_ | refine Below.alloc ?_ (by first | omega | (with_reducible exact Below.size (by assumption)) | (simp; done) | (simp; omega)) _ | refine Below.setCell ?_ (by first | omega | (with_reducible exact Below.size (by assumption)) | (simp; done) | (simp; omega)) _ | refine below_step (by assumption) (by first | omega | (with_reducible exact Below.size (by assumption)) | (simp; done) | (simp; omega)) ?_)⟩
set_option maxHeartbeats 400000 in
theorem indexFunc5Cm_c (A : Option Addr) (n c g : Nat) (fst cap : Array Value) (xs : List Cm5) (p : Nat → Bool) (w : World) (hn : n ≤ 40) (HX : CmsAt w A n xs)
    (HE : ∀ args w, (callFunc g args).run Try.prog w = .ok (.enter g args) w)
    (HF : ∀ k, k < n → ∀ w', Below w.heap.size w w' → Calls Try.prog g (fst.push (.agg #[.int .i64 (cmAt xs k).a, .int .i64 (cmAt xs k).b, .int .i64 (cmAt xs k).lo, .int .i64 (cmAt xs k).hi]) ++ cap) w' fun e w'' => e = .returned (.bool (p k)) ∧ Below w'.heap.size w' w'') :
    Calls Try.prog 61 #[.slice A n c, .func (.func g) fst cap] w fun e w' => e = .returned (.int .i64 (idxN n p)) ∧ Below w.heap.size w w' := by
  have HFI := Lib.hid HF
  have HXI := Lib.hid HX
  clear HF HX
  go_enter Try.func61, Try.ntmps61
  go_wp2
  go_loopw [8] (fun i (wr : World) => ∃ k : Nat, k ≤ n ∧ i = .int .i64 k ∧ Hid (∀ j, j < k → p j = false) ∧ Below w.heap.size w wr) (fun i _ => n - (intOf i).toNat)
  case atStart => exact ⟨0, by omega, rfl, fun j hj => absurd hj (by omega), Below.refl _ _⟩
  case round =>
    obtain ⟨k, hk, rfl, H1, hb⟩ := hrel
    have zb := hb.size
    by_cases hlt : k < n
    · obtain ⟨bp, op, rfl, hbp, x0, x1, x2, x3⟩ := (HXI.out.later hb).get hlt
      go_wp2_with fail
      refine (HFI.out k hlt _ hb).mono ?_
      (rintro e w1 ⟨rfl, hb1⟩; obtain ⟨hc1, hf1⟩ := bcell hb1; have zs1 := hb1.size; (try simp at zs1))
      go_wp2
      all_goals first
        | (go_roundw
           case rel => exact ⟨k + 1, by omega, by go_num, fun j hj => by
             rcases Nat.lt_succ_iff_lt_or_eq.1 hj with h | rfl
             · exact H1.out j h
             · rename_i h; simpa using h, by (repeat first | with_reducible assumption | with_reducible exact Below.refl _ _ | refine below_drewN ?_ _ | refine Below.drew ?_ | refine Below.alloc ?_ (by first | omega | (with_reducible exact Below.size (by assumption)) | (simp; done) | (simp; omega)) _ | refine Below.setCell ?_ (by first | omega | (with_reducible exact Below.size (by assumption)) | (simp; done) | (simp; omega)) _ | refine below_step (by assumption) (by first | omega | (with_reducible exact Below.size (by assumption)) | (simp; done) | (simp; omega)) ?_)⟩
           case measure => simp [intOf]; omega)
        | (go_ret
           rename_i h
           exact ⟨ret_int (idxN_some hlt (by simpa using h) H1.out).symm, by (repeat first | with_reducible assumption | with_reducible exact Below.refl _ _ | refine below_drewN ?_ _ | refine Below.drew ?_ | refine Below.alloc ?_ (by first | omega | (with_reducible exact Below.size (by assumption)) | (simp; done) | (simp; omega)) _ | refine Below.setCell ?_ (by first | omega | (with_reducible exact Below.size (by assumption)) | (simp; done) | (simp; omega)) _ | refine below_step (by assumption) (by first | omega | (with_reducible exact Below.size (by assumption)) | (simp; done) | (simp; omega)) ?_)⟩)
    · obtain rfl : n = k := by omega
      go_wp2
      go_ret
      exact ⟨ret_int (idxN_none H1.out).symm, by (repeat first | with_reducible assumption | with_reducible exact Below.refl _ _ | refine below_drewN ?_ _ | refine Below.drew ?_ | refine Below.alloc ?_ (by first | omega | (with_reducible exact Below.size (by assumption)) | (simp; done) | (simp; omega)) _ | refine Below.setCell ?_ (by first | omega | (with_reducible exact Below.size (by assumption)) | (simp; done) | (simp; omega)) _ | refine below_step (by assumption) (by first | omega | (with_reducible exact Below.size (by assumption)) | (simp; done) | (simp; omega)) ?_)⟩
set_option maxHeartbeats 400000 in
theorem containsFunc5Cm_c (A : Option Addr) (n c g : Nat) (fst cap : Array Value) (xs : List Cm5) (p : Nat → Bool) (w : World) (hn : n ≤ 40) (HX : CmsAt w A n xs)
    (HE : ∀ args w, (callFunc g args).run Try.prog w = .ok (.enter g args) w)
    (HF : ∀ k, k < n → ∀ w', Below w.heap.size w w' → Calls Try.prog g (fst.push (.agg #[.int .i64 (cmAt xs k).a, .int .i64 (cmAt xs k).b, .int .i64 (cmAt xs k).lo, .int .i64 (cmAt xs k).hi]) ++ cap) w' fun e w'' => e = .returned (.bool (p k)) ∧ Below w'.heap.size w' w'') :
    Calls Try.prog 48 #[.slice A n c, .func (.func g) fst cap] w fun e w' => e = .returned (.bool (anyN n p)) ∧ Below w.heap.size w w' := by
  have HC := Lib.hid (indexFunc5Cm_c A n c g fst cap xs p w hn HX HE HF)
  clear HF HX
  go_enter Try.func48, Try.ntmps48
  go_wp2_with fail
  refine HC.out.mono ?_
  (rintro e w1 ⟨rfl, hb1⟩; obtain ⟨hc1, hf1⟩ := bcell hb1; have zs1 := hb1.size; (try simp at zs1))
  go_wp2
  go_ret
  exact ⟨ret_bool idxN_ge, by (repeat first | with_reducible assumption | with_reducible exact Below.refl _ _ | refine below_drewN ?_ _ | refine Below.drew ?_ | refine Below.alloc ?_ (by first | omega | (with_reducible exact Below.size (by assumption)) | (simp; done) | (simp; omega)) _ | refine Below.setCell ?_ (by first | omega | (with_reducible exact Below.size (by assumption)) | (simp; done) | (simp; omega)) _ | refine below_step (by assumption) (by first | omega | (with_reducible exact Below.size (by assumption)) | (simp; done) | (simp; omega)) ?_)⟩

end Go.Proofs.Ytcinhibmohkeiaa
