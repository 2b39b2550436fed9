/- The program's look at a pull (layer 4): Check with its closures. -/
import Derived.Test.YtcbeiadimchknaaGreatQp05
import Derived.Shelf.Abstract
import Derived.Laws.EntriesVeiled
namespace Go.Proofs.YtcbeiadimchknaaGreat
open Go.RowKit
open Go.Sort (grow)
set_option linter.unusedVariables false
set_option linter.unusedSimpArgs false

set_option maxHeartbeats 400000 in
theorem indexFuncRo_c (A : Option Addr) (n c g : Nat) (fst cap : Array Value) (xs : List Ro4) (p : Nat → Bool) (w : World) (hn : n ≤ 40) (HX : RosAt w A n xs)
    (HE : ∀ args w, (callFunc g args).run Tryz.prog w = .ok (.enter g args) w)
    (HF : ∀ k, k < n → ∀ w', Below w.heap.size w w' → Calls Tryz.prog g (fst.push (.agg #[.int .i64 (roAt xs k).lg, .int .i64 (roAt xs k).we, .int .i64 (roAt xs k).gr]) ++ cap) w' fun e w'' => e = .returned (.bool (p k)) ∧ Below w'.heap.size w' w'') :
    Calls Tryz.prog 120 #[.slice A n c, .func (.func g) fst cap] w fun e w' => e = .returned (.int .i64 (idxN n p)) ∧ Below w.heap.size w w' := by
  have HFI := Lib.hid HF
  have HXI := Lib.hid HX
  clear HF HX
  go_enter Tryz.func120, Tryz.ntmps120
  go_wp2
  go_loopw [8] (fun i (wr : World) => ∃ k : Nat, k ≤ n ∧ i = .int .i64 k ∧ Hid (∀ j, j < k → p j = false) ∧ Below w.heap.size w wr) (fun i _ => n - (intOf i).toNat)
  case atStart => exact ⟨0, by omega, rfl, fun j hj => absurd hj (by omega), Below.refl _ _⟩
  case round =>
    obtain ⟨k, hk, rfl, H1, hb⟩ := hrel
    have zb := hb.size
    by_cases hlt : k < n
    · obtain ⟨bp, op, rfl, hbp, x0, x1, x2⟩ := (HXI.out.later hb).get hlt
      go_wp2_with fail
      refine (HFI.out k hlt _ hb).mono ?_
      (rintro e w1 ⟨rfl, hb1⟩; obtain ⟨hc1, hf1⟩ := bcell hb1; have zs1 := hb1.size; (try simp at zs1))
      go_wp2
      all_goals first
        | (go_roundw
           case rel => exact ⟨k + 1, by omega, by go_num, fun j hj => by
             rcases Nat.lt_succ_iff_lt_or_eq.1 hj with h | rfl
             · exact H1.out j h
             · rename_i h; simpa using h, by (repeat first | with_reducible assumption | with_reducible exact Below.refl _ _ | refine below_drewN ?_ _ | refine Below.drew ?_ | refine Below.alloc ?_ (by first | omega | (with_reducible exact Below.size (by assumption)) | (simp; done) | (simp; omega)) _ | refine Below.setCell ?_ (by first | omega | (with_reducible exact Below.size (by assumption)) | (simp; done) | (simp; omega)) _ | refine below_step (by assumption) (by first | omega | (with_reducible exact Below.size (by assumption)) | (simp; done) | (simp; omega)) ?_)⟩
           case measure => simp [intOf]; omega)
        | (go_ret
           rename_i h
           exact ⟨ret_int (idxN_some hlt (by simpa using h) H1.out).symm, by (repeat first | with_reducible assumption | with_reducible exact Below.refl _ _ | refine below_drewN ?_ _ | refine Below.drew ?_ | refine Below.alloc ?_ (by first | omega | (with_reducible exact Below.size (by assumption)) | (simp; done) | (simp; omega)) _ | refine Below.setCell ?_ (by first | omega | (with_reducible exact Below.size (by assumption)) | (simp; done) | (simp; omega)) _ | refine below_step (by assumption) (by first | omega | (with_reducible exact Below.size (by assumption)) | (simp; done) | (simp; omega)) ?_)⟩)
    · obtain rfl : n = k := by omega
      go_wp2
      go_ret
      exact ⟨ret_int (idxN_none H1.out).symm, by (repeat first | with_reducible assumption | with_reducible exact Below.refl _ _ | refine below_drewN ?_ _ | refine Below.drew ?_ | refine Below.alloc ?_ (by first | omega | (with_reducible exact Below.size (by assumption)) | (simp; done) | (simp; omega)) _ | refine Below.setCell ?_ (by first | omega | (with_reducible exact Below.size (by assumption)) | (simp; done) | (simp; omega)) _ | refine below_step (by assumption) (by first | omega | (with_reducible exact Below.size (by assumption)) | (simp; done) | (simp; omega)) ?_)⟩
set_option maxHeartbeats 400000 in
theorem containsFuncRo_c (A : Option Addr) (n c g : Nat) (fst cap : Array Value) (xs : List Ro4) (p : Nat → Bool) (w : World) (hn : n ≤ 40) (HX : RosAt w A n xs)
    (HE : ∀ args w, (callFunc g args).run Tryz.prog w = .ok (.enter g args) w)
    (HF : ∀ k, k < n → ∀ w', Below w.heap.size w w' → Calls Tryz.prog g (fst.push (.agg #[.int .i64 (roAt xs k).lg, .int .i64 (roAt xs k).we, .int .i64 (roAt xs k).gr]) ++ cap) w' fun e w'' => e = .returned (.bool (p k)) ∧ Below w'.heap.size w' w'') :
    Calls Tryz.prog 108 #[.slice A n c, .func (.func g) fst cap] w fun e w' => e = .returned (.bool (anyN n p)) ∧ Below w.heap.size w w' := by
  have HC := Lib.hid (indexFuncRo_c A n c g fst cap xs p w hn HX HE HF)
  clear HF HX
  go_enter Tryz.func108, Tryz.ntmps108
  go_wp2_with fail
  refine HC.out.mono ?_
  (rintro e w1 ⟨rfl, hb1⟩; obtain ⟨hc1, hf1⟩ := bcell hb1; have zs1 := hb1.size; (try simp at zs1))
  go_wp2
  go_ret
  exact ⟨ret_bool idxN_ge, by (repeat first | with_reducible assumption | with_reducible exact Below.refl _ _ | refine below_drewN ?_ _ | refine Below.drew ?_ | refine Below.alloc ?_ (by first | omega | (with_reducible exact Below.size (by assumption)) | (simp; done) | (simp; omega)) _ | refine Below.setCell ?_ (by first | omega | (with_reducible exact Below.size (by assumption)) | (simp; done) | (simp; omega)) _ | refine below_step (by assumption) (by first | omega | (with_reducible exact Below.size (by assumption)) | (simp; done) | (simp; omega)) ?_)⟩
set_option maxHeartbeats 400000 in
theorem allRo1_c (g B : Nat) (fst cap : Array Value) (k : Nat) (xs : List Ro4) (r : Bool) (w : World) (hB : B < w.heap.size) (hc : w.cell? ⟨B, 0, none⟩ = some (.func (.func g) fst cap))
    (HE : ∀ args w, (callFunc g args).run Tryz.prog w = .ok (.enter g args) w)
    (HF : ∀ w', Below w.heap.size w w' → Calls Tryz.prog g (fst.push (.agg #[.int .i64 (roAt xs k).lg, .int .i64 (roAt xs k).we, .int .i64 (roAt xs k).gr]) ++ cap) w' fun e w'' => e = .returned (.bool r) ∧ Below w'.heap.size w' w'') :
    Calls Tryz.prog 109 #[.agg #[.int .i64 (roAt xs k).lg, .int .i64 (roAt xs k).we, .int .i64 (roAt xs k).gr], .pointer (some ⟨B, 0, none⟩)] w fun e w' => e = .returned (.bool (!r)) ∧ Below w.heap.size w w' := by
  have HFI := Lib.hid HF
  clear HF
  go_enter Tryz.func109, Tryz.ntmps109
  go_wp2_with fail
  refine (HFI.out _ (by (repeat first | with_reducible assumption | with_reducible exact Below.refl _ _ | (with_reducible refine Below.alloc ?_ ?side _; case side => (first | omega | (with_reducible exact Below.size (by assumption)) | (simp; done) | (simp; omega))) | (with_reducible refine Below.setCell ?_ ?side _; case side => (first | omega | (with_reducible exact Below.size (by assumption)) | (simp; done) | (simp; omega))) | with_reducible refine Below.drew ?_ | with_reducible refine below_drewN ?_ _ | (with_reducible refine below_step (by assumption) ?side ?_; case side => (first | omega | (with_reducible exact Below.size (by assumption)) | (simp; done) | (simp; omega)))))).mono ?_
  (rintro e w1 ⟨rfl, hb1⟩; obtain ⟨hc1, hf1⟩ := bcell hb1; have zs1 := hb1.size; (try simp at zs1))
  go_wp2
  go_ret
  exact ⟨rfl, by (repeat first | with_reducible assumption | with_reducible exact Below.refl _ _ | refine below_drewN ?_ _ | refine Below.drew ?_ | refine Below.alloc ?_ (by first | omega | (with_reducible exact Below.size (by assumption)) | (simp; done) | (simp; omega)) _ | refine Below.setCell ?_ (by first | omega | (with_reducible exact Below.size (by assumption)) | (simp; done) | (simp; omega)) _ | refine below_step (by assumption) (by first | omega | (with_reducible exact Below.size (by assumption)) | (simp; done) | (simp; omega)) ?_)⟩
set_option maxHeartbeats 400000 in
theorem allRo_c (A : Option Addr) (n c g : Nat) (fst cap : Array Value) (xs : List Ro4) (p : Nat → Bool) (w : World) (hn : n ≤ 40) (HX : RosAt w A n xs)
    (HE : ∀ args w, (callFunc g args).run Tryz.prog w = .ok (.enter g args) w)
    (HF : ∀ k, k < n → ∀ w', Below w.heap.size w w' → Calls Tryz.prog g (fst.push (.agg #[.int .i64 (roAt xs k).lg, .int .i64 (roAt xs k).we, .int .i64 (roAt xs k).gr]) ++ cap) w' fun e w'' => e = .returned (.bool (p k)) ∧ Below w'.heap.size w' w'') :
    Calls Tryz.prog 91 #[.slice A n c, .func (.func g) fst cap] w fun e w' => e = .returned (.bool (allN n p)) ∧ Below w.heap.size w w' := by
  have en1 : ∀ args w, (callFunc 109 args).run Tryz.prog w = .ok (.enter 109 args) w := enters_of Tryz.func109 (by kernel_rfl) rfl
  have HFI := Lib.hid HF
  have HXI := Lib.hid HX
  have HEI := Lib.hid HE
  have ENI := Lib.hid en1
  clear HF HX HE en1
  go_enter Tryz.func91, Tryz.ntmps91
  go_upto_region 1 with (fail)
  go_name_world W hW
  obtain ⟨hB, hz⟩ := al1 hW
  obtain ⟨l_0, q_0, f_0⟩ := al1_0 hW
  have HZ := Lib.hid hz
  have zs := hB.size
  clear hW hz
  have p0 := q_0 0
  have HC := Lib.hid (containsFuncRo_c A n c 109 #[] #[.pointer (some ⟨w.heap.size, 0, none⟩)] xs (fun k => !p k) W hn (HXI.out.later hB) ENI.out (fun k hk w' hb => by
    have h1 := hB.trans (hb.mono zs)
    simpa using allRo1_c g w.heap.size fst cap k xs (p k) w' (Nat.lt_of_lt_of_le l_0 hb.size) ((hb.cell (p := ⟨w.heap.size, 0, none⟩) l_0).trans p0) HEI.out (fun w2 hb2 => HFI.out k hk w2 (h1.trans (hb2.mono h1.size)))))
  clear p0 q_0 f_0
  go_wp2_with (go_at_call 108; refine HC.out.mono ?_; (rintro e w1 ⟨rfl, hb1⟩; obtain ⟨hc1, hf1⟩ := bcell hb1; have zs1 := hb1.size; (try simp at zs1)))
  go_ret
  exact ⟨ret_bool (by rw [anyN_not, Bool.not_not]), by (repeat first | with_reducible assumption | with_reducible exact Below.refl _ _ | (with_reducible refine Below.alloc ?_ ?side _; case side => (first | omega | (with_reducible exact Below.size (by assumption)) | (simp; done) | (simp; omega))) | (with_reducible refine Below.setCell ?_ ?side _; case side => (first | omega | (with_reducible exact Below.size (by assumption)) | (simp; done) | (simp; omega))) | with_reducible refine Below.drew ?_ | with_reducible refine below_drewN ?_ _ | (with_reducible refine below_step (by assumption) ?side ?_; case side => (first | omega | (with_reducible exact Below.size (by assumption)) | (simp; done) | (simp; omega))))⟩
set_option maxHeartbeats 400000 in
theorem indexFuncRe_c (A : Option Addr) (n c g : Nat) (fst cap : Array Value) (xs : List Re4) (p : Nat → Bool) (w : World) (hn : n ≤ 40) (HX : ResAt w A n xs)
    (HE : ∀ args w, (callFunc g args).run Tryz.prog w = .ok (.enter g args) w)
    (HF : ∀ k, k < n → ∀ w', Below w.heap.size w w' → Calls Tryz.prog g (fst.push (.agg #[.int .i64 (reAt xs k).wh, .int .i64 (reAt xs k).rd, .int .i64 (reAt xs k).ct, .int .i64 (reAt xs k).rs, .int .i64 (reAt xs k).of, .int .i64 (reAt xs k).lo, .int .i64 (reAt xs k).hi]) ++ cap) w' fun e w'' => e = .returned (.bool (p k)) ∧ Below w'.heap.size w' w'') :
    Calls Tryz.prog 121 #[.slice A n c, .func (.func g) fst cap] w fun e w' => e = .returned (.int .i64 (idxN n p)) ∧ Below w.heap.size w w' := by
  have HFI := Lib.hid HF
  have HXI := Lib.hid HX
  clear HF HX
  go_enter Tryz.func121, Tryz.ntmps121
  go_wp2
  go_loopw [8] (fun i (wr : World) => ∃ k : Nat, k ≤ n ∧ i = .int .i64 k ∧ Hid (∀ j, j < k → p j = false) ∧ Below w.heap.size w wr) (fun i _ => n - (intOf i).toNat)
  case atStart => exact ⟨0, by omega, rfl, fun j hj => absurd hj (by omega), Below.refl _ _⟩
  case round =>
    obtain ⟨k, hk, rfl, H1, hb⟩ := hrel
    have zb := hb.size
    by_cases hlt : k < n
    · obtain ⟨bp, op, rfl, hbp, x0, x1, x2, x3, x4, x5, x6⟩ := (HXI.out.later hb).get hlt
      go_wp2_with fail
      refine (HFI.out k hlt _ hb).mono ?_
      (rintro e w1 ⟨rfl, hb1⟩; obtain ⟨hc1, hf1⟩ := bcell hb1; have zs1 := hb1.size; (try simp at zs1))
      go_wp2
      all_goals first
        | (go_roundw
           case rel => exact ⟨k + 1, by omega, by go_num, fun j hj => by
             rcases Nat.lt_succ_iff_lt_or_eq.1 hj with h | rfl
             · exact H1.out j h
             · rename_i h; simpa using h, by (repeat first | with_reducible assumption | with_reducible exact Below.refl _ _ | refine below_drewN ?_ _ | refine Below.drew ?_ | refine Below.alloc ?_ (by first | omega | (with_reducible exact Below.size (by assumption)) | (simp; done) | (simp; omega)) _ | refine Below.setCell ?_ (by first | omega | (with_reducible exact Below.size (by assumption)) | (simp; done) | (simp; omega)) _ | refine below_step (by assumption) (by first | omega | (with_reducible exact Below.size (by assumption)) | (simp; done) | (simp; omega)) ?_)⟩
           case measure => simp [intOf]; omega)
        | (go_ret
           rename_i h
           exact ⟨ret_int (idxN_some hlt (by simpa using h) H1.out).symm, by (repeat first | with_reducible assumption | with_reducible exact Below.refl _ _ | refine below_drewN ?_ _ | refine Below.drew ?_ | refine Below.alloc ?_ (by first | omega | (with_reducible exact Below.size (by assumption)) | (simp; done) | (simp; omega)) _ | refine Below.setCell ?_ (by first | omega | (with_reducible exact Below.size (by assumption)) | (simp; done) | (simp; omega)) _ | refine below_step (by assumption) (by first | omega | (with_reducible exact Below.size (by assumption)) | (simp; done) | (simp; omega)) ?_)⟩)
    · obtain rfl : n = k := by omega
      go_wp2
      go_ret
      exact ⟨ret_int (idxN_none H1.out).symm, by (repeat first | with_reducible assumption | with_reducible exact Below.refl _ _ | refine below_drewN ?_ _ | refine Below.drew ?_ | refine Below.alloc ?_ (by first | omega | (with_reducible exact Below.size (by assumption)) | (simp; done) | (simp; omega)) _ | refine Below.setCell ?_ (by first | omega | (with_reducible exact Below.size (by assumption)) | (simp; done) | (simp; omega)) _ | refine below_step (by assumption) (by first | omega | (with_reducible exact Below.size (by assumption)) | (simp; done) | (simp; omega)) ?_)⟩
set_option maxHeartbeats 400000 in
theorem containsFuncRe_c (A : Option Addr) (n c g : Nat) (fst cap : Array Value) (xs : List Re4) (p : Nat → Bool) (w : World) (hn : n ≤ 40) (HX : ResAt w A n xs)
    (HE : ∀ args w, (callFunc g args).run Tryz.prog w = .ok (.enter g args) w)
    (HF : ∀ k, k < n → ∀ w', Below w.heap.size w w' → Calls Tryz.prog g (fst.push (.agg #[.int .i64 (reAt xs k).wh, .int .i64 (reAt xs k).rd, .int .i64 (reAt xs k).ct, .int .i64 (reAt xs k).rs, .int .i64 (reAt xs k).of, .int .i64 (reAt xs k).lo, .int .i64 (reAt xs k).hi]) ++ cap) w' fun e w'' => e = .returned (.bool (p k)) ∧ Below w'.heap.size w' w'') :
    Calls Tryz.prog 110 #[.slice A n c, .func (.func g) fst cap] w fun e w' => e = .returned (.bool (anyN n p)) ∧ Below w.heap.size w w' := by
  have HC := Lib.hid (indexFuncRe_c A n c g fst cap xs p w hn HX HE HF)
  clear HF HX
  go_enter Tryz.func110, Tryz.ntmps110
  go_wp2_with fail
  refine HC.out.mono ?_
  (rintro e w1 ⟨rfl, hb1⟩; obtain ⟨hc1, hf1⟩ := bcell hb1; have zs1 := hb1.size; (try simp at zs1))
  go_wp2
  go_ret
  exact ⟨ret_bool idxN_ge, by (repeat first | with_reducible assumption | with_reducible exact Below.refl _ _ | refine below_drewN ?_ _ | refine Below.drew ?_ | refine Below.alloc ?_ (by first | omega | (with_reducible exact Below.size (by assumption)) | (simp; done) | (simp; omega)) _ | refine Below.setCell ?_ (by first | omega | (with_reducible exact Below.size (by assumption)) | (simp; done) | (simp; omega)) _ | refine below_step (by assumption) (by first | omega | (with_reducible exact Below.size (by assumption)) | (simp; done) | (simp; omega)) ?_)⟩
set_option maxHeartbeats 400000 in
theorem allRe1_c (g B : Nat) (fst cap : Array Value) (k : Nat) (xs : List Re4) (r : Bool) (w : World) (hB : B < w.heap.size) (hc : w.cell? ⟨B, 0, none⟩ = some (.func (.func g) fst cap))
    (HE : ∀ args w, (callFunc g args).run Tryz.prog w = .ok (.enter g args) w)
    (HF : ∀ w', Below w.heap.size w w' → Calls Tryz.prog g (fst.push (.agg #[.int .i64 (reAt xs k).wh, .int .i64 (reAt xs k).rd, .int .i64 (reAt xs k).ct, .int .i64 (reAt xs k).rs, .int .i64 (reAt xs k).of, .int .i64 (reAt xs k).lo, .int .i64 (reAt xs k).hi]) ++ cap) w' fun e w'' => e = .returned (.bool r) ∧ Below w'.heap.size w' w'') :
    Calls Tryz.prog 111 #[.agg #[.int .i64 (reAt xs k).wh, .int .i64 (reAt xs k).rd, .int .i64 (reAt xs k).ct, .int .i64 (reAt xs k).rs, .int .i64 (reAt xs k).of, .int .i64 (reAt xs k).lo, .int .i64 (reAt xs k).hi], .pointer (some ⟨B, 0, none⟩)] w fun e w' => e = .returned (.bool (!r)) ∧ Below w.heap.size w w' := by
  have HFI := Lib.hid HF
  clear HF
  go_enter Tryz.func111, Tryz.ntmps111
  go_wp2_with fail
  refine (HFI.out _ (by (repeat first | with_reducible assumption | with_reducible exact Below.refl _ _ | (with_reducible refine Below.alloc ?_ ?side _; case side => (first | omega | (with_reducible exact Below.size (by assumption)) | (simp; done) | (simp; omega))) | (with_reducible refine Below.setCell ?_ ?side _; case side => (first | omega | (with_reducible exact Below.size (by assumption)) | (simp; done) | (simp; omega))) | with_reducible refine Below.drew ?_ | with_reducible refine below_drewN ?_ _ | (with_reducible refine below_step (by assumption) ?side ?_; case side => (first | omega | (with_reducible exact Below.size (by assumption)) | (simp; done) | (simp; omega)))))).mono ?_
  (rintro e w1 ⟨rfl, hb1⟩; obtain ⟨hc1, hf1⟩ := bcell hb1; have zs1 := hb1.size; (try simp at zs1))
  go_wp2
  go_ret
  exact ⟨rfl, by (repeat first | with_reducible assumption | with_reducible exact Below.refl _ _ | refine below_drewN ?_ _ | refine Below.drew ?_ | refine Below.alloc ?_ (by first | omega | (with_reducible exact Below.size (by assumption)) | (simp; done) | (simp; omega)) _ | refine Below.setCell ?_ (by first | omega | (with_reducible exact Below.size (by assumption)) | (simp; done) | (simp; omega)) _ | refine below_step (by assumption) (by first | omega | (with_reducible exact Below.size (by assumption)) | (simp; done) | (simp; omega)) ?_)⟩
set_option maxHeartbeats 400000 in
theorem allRe_c (A : Option Addr) (n c g : Nat) (fst cap : Array Value) (xs : List Re4) (p : Nat → Bool) (w : World) (hn : n ≤ 40) (HX : ResAt w A n xs)
    (HE : ∀ args w, (callFunc g args).run Tryz.prog w = .ok (.enter g args) w)
    (HF : ∀ k, k < n → ∀ w', Below w.heap.size w w' → Calls Tryz.prog g (fst.push (.agg #[.int .i64 (reAt xs k).wh, .int .i64 (reAt xs k).rd, .int .i64 (reAt xs k).ct, .int .i64 (reAt xs k).rs, .int .i64 (reAt xs k).of, .int .i64 (reAt xs k).lo, .int .i64 (reAt xs k).hi]) ++ cap) w' fun e w'' => e = .returned (.bool (p k)) ∧ Below w'.heap.size w' w'') :
    Calls Tryz.prog 92 #[.slice A n c, .func (.func g) fst cap] w fun e w' => e = .returned (.bool (allN n p)) ∧ Below w.heap.size w w' := by
  have en1 : ∀ args w, (callFunc 111 args).run Tryz.prog w = .ok (.enter 111 args) w := enters_of Tryz.func111 (by kernel_rfl) rfl
  have HFI := Lib.hid HF
  have HXI := Lib.hid HX
  have HEI := Lib.hid HE
  have ENI := Lib.hid en1
  clear HF HX HE en1
  go_enter Tryz.func92, Tryz.ntmps92
  go_upto_region 1 with (fail)
  go_name_world W hW
  obtain ⟨hB, hz⟩ := al1 hW
  obtain ⟨l_0, q_0, f_0⟩ := al1_0 hW
  have HZ := Lib.hid hz
  have zs := hB.size
  clear hW hz
  have p0 := q_0 0
  have HC := Lib.hid (containsFuncRe_c A n c 111 #[] #[.pointer (some ⟨w.heap.size, 0, none⟩)] xs (fun k => !p k) W hn (HXI.out.later hB) ENI.out (fun k hk w' hb => by
    have h1 := hB.trans (hb.mono zs)
    simpa using allRe1_c g w.heap.size fst cap k xs (p k) w' (Nat.lt_of_lt_of_le l_0 hb.size) ((hb.cell (p := ⟨w.heap.size, 0, none⟩) l_0).trans p0) HEI.out (fun w2 hb2 => HFI.out k hk w2 (h1.trans (hb2.mono h1.size)))))
  clear p0 q_0 f_0
  go_wp2_with (go_at_call 110; refine HC.out.mono ?_; (rintro e w1 ⟨rfl, hb1⟩; obtain ⟨hc1, hf1⟩ := bcell hb1; have zs1 := hb1.size; (try simp at zs1)))
  go_ret
  exact ⟨ret_bool (by rw [anyN_not, Bool.not_not]), by (repeat first | with_reducible assumption | with_reducible exact Below.refl _ _ | (with_reducible refine Below.alloc ?_ ?side _; case side => (first | omega | (with_reducible exact Below.size (by assumption)) | (simp; done) | (simp; omega))) | (with_reducible refine Below.setCell ?_ ?side _; case side => (first | omega | (with_reducible exact Below.size (by assumption)) | (simp; done) | (simp; omega))) | with_reducible refine Below.drew ?_ | with_reducible refine below_drewN ?_ _ | (with_reducible refine below_step (by assumption) ?side ?_; case side => (first | omega | (with_reducible exact Below.size (by assumption)) | (simp; done) | (simp; omega))))⟩
theorem min9 (a : Int) : min 9 a = if 9 < a then 9 else a := by omega
set_option maxHeartbeats 800000 in
theorem ckRo4_c (l : Ro4) (w : World) : Calls Tryz.prog 88 #[.agg #[.int .i64 l.lg, .int .i64 l.we, .int .i64 l.gr]] w fun e w' => e = .returned (.bool (ckRo4 l)) ∧ Below w.heap.size w w' := by
  obtain ⟨lg, we, gr⟩ := l
  unfold ckRo4
  simp only
  have c1 := fun V => within4_c lg 1 9999 V
  cases e1 : wn lg 1 9999
  · rw [e1] at c1
    replace c1 := Lib.hid c1
    clear e1
    go_enter Tryz.func88, Tryz.ntmps88
    go_wp2_with (go_at_call 89; refine (c1.out _).mono ?_; rintro e w' ⟨rfl, rfl⟩)
    go_ret
    exact ⟨rfl, by (repeat first | with_reducible assumption | with_reducible exact Below.refl _ _ | (with_reducible refine Below.alloc ?_ ?side _; case side => (first | omega | (with_reducible exact Below.size (by assumption)) | (simp; done) | (simp; omega))) | (with_reducible refine Below.setCell ?_ ?side _; case side => (first | omega | (with_reducible exact Below.size (by assumption)) | (simp; done) | (simp; omega))) | with_reducible refine Below.drew ?_ | with_reducible refine below_drewN ?_ _ | (with_reducible refine below_step (by assumption) ?side ?_; case side => (first | omega | (with_reducible exact Below.size (by assumption)) | (simp; done) | (simp; omega))))⟩
  have hl := wn_true.1 e1
  obtain ⟨m, hm⟩ : ∃ m, min 9 (lg - 1) = m := ⟨_, rfl⟩
  rw [hm]
  have c2 := fun V => within4_c we 0 m V
  have c3 := fun V => within4_c gr 0 50 V
  have v1 : IntKind.i64.wrap (lg - 1) = lg - 1 := IntWalk.i64_in _ (by omega)
  rw [e1] at c1
  replace c1 := Lib.hid c1
  clear e1
  by_cases h9 : lg - 1 < 9
  · obtain rfl : lg - 1 = m := by omega
    cases e2 : wn we 0 (lg - 1) <;> cases e3 : wn gr 0 50 <;> rw [e2] at c2 <;> rw [e3] at c3 <;> replace c2 := Lib.hid c2 <;> replace c3 := Lib.hid c3 <;> clear e2 e3
    all_goals
      go_enter Tryz.func88, Tryz.ntmps88
      go_wp2_with (go_at_call 89; (first | with_reducible refine (c1.out _).mono ?_ | with_reducible refine (c2.out _).mono ?_ | with_reducible refine (c3.out _).mono ?_); rintro e w' ⟨rfl, rfl⟩)
      go_ret
      exact ⟨rfl, by (repeat first | with_reducible assumption | with_reducible exact Below.refl _ _ | (with_reducible refine Below.alloc ?_ ?side _; case side => (first | omega | (with_reducible exact Below.size (by assumption)) | (simp; done) | (simp; omega))) | (with_reducible refine Below.setCell ?_ ?side _; case side => (first | omega | (with_reducible exact Below.size (by assumption)) | (simp; done) | (simp; omega))) | with_reducible refine Below.drew ?_ | with_reducible refine below_drewN ?_ _ | (with_reducible refine below_step (by assumption) ?side ?_; case side => (first | omega | (with_reducible exact Below.size (by assumption)) | (simp; done) | (simp; omega))))⟩
  · obtain rfl : 9 = m := by omega
    cases e2 : wn we 0 9 <;> cases e3 : wn gr 0 50 <;> rw [e2] at c2 <;> rw [e3] at c3 <;> replace c2 := Lib.hid c2 <;> replace c3 := Lib.hid c3 <;> clear e2 e3
    all_goals
      go_enter Tryz.func88, Tryz.ntmps88
      go_wp2_with (go_at_call 89; (first | with_reducible refine (c1.out _).mono ?_ | with_reducible refine (c2.out _).mono ?_ | with_reducible refine (c3.out _).mono ?_); rintro e w' ⟨rfl, rfl⟩)
      go_ret
      exact ⟨rfl, by (repeat first | with_reducible assumption | with_reducible exact Below.refl _ _ | (with_reducible refine Below.alloc ?_ ?side _; case side => (first | omega | (with_reducible exact Below.size (by assumption)) | (simp; done) | (simp; omega))) | (with_reducible refine Below.setCell ?_ ?side _; case side => (first | omega | (with_reducible exact Below.size (by assumption)) | (simp; done) | (simp; omega))) | with_reducible refine Below.drew ?_ | with_reducible refine below_drewN ?_ _ | (with_reducible refine below_step (by assumption) ?side ?_; case side => (first | omega | (with_reducible exact Below.size (by assumption)) | (simp; done) | (simp; omega))))⟩
set_option maxHeartbeats 1600000 in
theorem ckRe4_c (B : Nat) (Ar : Option Addr) (nr cr : Nat) (ir glo ghi : Int) (x : Re4) (w : World) (hn : nr ≤ 40) (hB : B < w.heap.size) (hc : w.cell? ⟨B, 3, none⟩ = some (.slice Ar nr cr)) :
    Calls Tryz.prog 90 #[.agg #[.int .i64 x.wh, .int .i64 x.rd, .int .i64 x.ct, .int .i64 x.rs, .int .i64 x.of, .int .i64 x.lo, .int .i64 x.hi], .pointer (some ⟨B, 0, none⟩)] w fun e w' => e = .returned (.bool (ckRe4 nr x)) ∧ Below w.heap.size w w' := by
  obtain ⟨wh, rd, ct, rs, of, lo, hi⟩ := x
  have e0 : ckRe4 nr ⟨wh, rd, ct, rs, of, lo, hi⟩ = (when4 wh && (wn rd 0 ((nr : Int) - 1) && (wn ct 0 99 && (wn rs 0 9999 && (wn of 0 99 && (wn lo (-50) hi && decide (hi ≤ 50))))))) := by
    unfold ckRe4 when4
    simp only [Bool.and_assoc]
    cases h1 : (wh == 1) <;> cases h2 : (wh == 2) <;> simp_all
  rw [e0]
  clear e0
  simp only
  have v1 : IntKind.i64.wrap ((nr : Int) - 1) = (nr : Int) - 1 := IntWalk.i64_in _ (by omega)
  have c0 := fun V => isWhen4_c wh V
  have c1 := fun V => within4_c rd 0 ((nr : Int) - 1) V
  have c2 := fun V => within4_c ct 0 99 V
  have c3 := fun V => within4_c rs 0 9999 V
  have c4 := fun V => within4_c of 0 99 V
  have c5 := fun V => within4_c lo (-50) hi V
  cases e0 : when4 wh
  · rw [e0] at c0; replace c0 := Lib.hid c0; replace c1 := Lib.hid c1; replace c2 := Lib.hid c2; replace c3 := Lib.hid c3; replace c4 := Lib.hid c4; replace c5 := Lib.hid c5; clear e0
    go_enter Tryz.func90, Tryz.ntmps90
    go_wp2_with (first | (go_at_call 45; refine (c0.out _).mono ?_; rintro e w' ⟨rfl, rfl⟩) | (go_at_call 89; (first | with_reducible refine (c1.out _).mono ?_ | with_reducible refine (c2.out _).mono ?_ | with_reducible refine (c3.out _).mono ?_ | with_reducible refine (c4.out _).mono ?_ | with_reducible refine (c5.out _).mono ?_); rintro e w' ⟨rfl, rfl⟩))
    go_ret
    exact ⟨rfl, by (repeat first | with_reducible assumption | with_reducible exact Below.refl _ _ | (with_reducible refine Below.alloc ?_ ?side _; case side => (first | omega | (with_reducible exact Below.size (by assumption)) | (simp; done) | (simp; omega))) | (with_reducible refine Below.setCell ?_ ?side _; case side => (first | omega | (with_reducible exact Below.size (by assumption)) | (simp; done) | (simp; omega))) | with_reducible refine Below.drew ?_ | with_reducible refine below_drewN ?_ _ | (with_reducible refine below_step (by assumption) ?side ?_; case side => (first | omega | (with_reducible exact Below.size (by assumption)) | (simp; done) | (simp; omega))))⟩
  rw [e0] at c0; replace c0 := Lib.hid c0; clear e0
  cases e1 : wn rd 0 ((nr : Int) - 1)
  · rw [e1] at c1; replace c1 := Lib.hid c1; replace c2 := Lib.hid c2; replace c3 := Lib.hid c3; replace c4 := Lib.hid c4; replace c5 := Lib.hid c5; clear e1
    go_enter Tryz.func90, Tryz.ntmps90
    go_wp2_with (first | (go_at_call 45; refine (c0.out _).mono ?_; rintro e w' ⟨rfl, rfl⟩) | (go_at_call 89; (first | with_reducible refine (c1.out _).mono ?_ | with_reducible refine (c2.out _).mono ?_ | with_reducible refine (c3.out _).mono ?_ | with_reducible refine (c4.out _).mono ?_ | with_reducible refine (c5.out _).mono ?_); rintro e w' ⟨rfl, rfl⟩))
    go_ret
    exact ⟨rfl, by (repeat first | with_reducible assumption | with_reducible exact Below.refl _ _ | (with_reducible refine Below.alloc ?_ ?side _; case side => (first | omega | (with_reducible exact Below.size (by assumption)) | (simp; done) | (simp; omega))) | (with_reducible refine Below.setCell ?_ ?side _; case side => (first | omega | (with_reducible exact Below.size (by assumption)) | (simp; done) | (simp; omega))) | with_reducible refine Below.drew ?_ | with_reducible refine below_drewN ?_ _ | (with_reducible refine below_step (by assumption) ?side ?_; case side => (first | omega | (with_reducible exact Below.size (by assumption)) | (simp; done) | (simp; omega))))⟩
  rw [e1] at c1; replace c1 := Lib.hid c1; clear e1
  cases e2 : wn ct 0 99
  · rw [e2] at c2; replace c2 := Lib.hid c2; replace c3 := Lib.hid c3; replace c4 := Lib.hid c4; replace c5 := Lib.hid c5; clear e2
    go_enter Tryz.func90, Tryz.ntmps90
    go_wp2_with (first | (go_at_call 45; refine (c0.out _).mono ?_; rintro e w' ⟨rfl, rfl⟩) | (go_at_call 89; (first | with_reducible refine (c1.out _).mono ?_ | with_reducible refine (c2.out _).mono ?_ | with_reducible refine (c3.out _).mono ?_ | with_reducible refine (c4.out _).mono ?_ | with_reducible refine (c5.out _).mono ?_); rintro e w' ⟨rfl, rfl⟩))
    go_ret
    exact ⟨rfl, by (repeat first | with_reducible assumption | with_reducible exact Below.refl _ _ | (with_reducible refine Below.alloc ?_ ?side _; case side => (first | omega | (with_reducible exact Below.size (by assumption)) | (simp; done) | (simp; omega))) | (with_reducible refine Below.setCell ?_ ?side _; case side => (first | omega | (with_reducible exact Below.size (by assumption)) | (simp; done) | (simp; omega))) | with_reducible refine Below.drew ?_ | with_reducible refine below_drewN ?_ _ | (with_reducible refine below_step (by assumption) ?side ?_; case side => (first | omega | (with_reducible exact Below.size (by assumption)) | (simp; done) | (simp; omega))))⟩
  rw [e2] at c2; replace c2 := Lib.hid c2; clear e2
  cases e3 : wn rs 0 9999
  · rw [e3] at c3; replace c3 := Lib.hid c3; replace c4 := Lib.hid c4; replace c5 := Lib.hid c5; clear e3
    go_enter Tryz.func90, Tryz.ntmps90
    go_wp2_with (first | (go_at_call 45; refine (c0.out _).mono ?_; rintro e w' ⟨rfl, rfl⟩) | (go_at_call 89; (first | with_reducible refine (c1.out _).mono ?_ | with_reducible refine (c2.out _).mono ?_ | with_reducible refine (c3.out _).mono ?_ | with_reducible refine (c4.out _).mono ?_ | with_reducible refine (c5.out _).mono ?_); rintro e w' ⟨rfl, rfl⟩))
    go_ret
    exact ⟨rfl, by (repeat first | with_reducible assumption | with_reducible exact Below.refl _ _ | (with_reducible refine Below.alloc ?_ ?side _; case side => (first | omega | (with_reducible exact Below.size (by assumption)) | (simp; done) | (simp; omega))) | (with_reducible refine Below.setCell ?_ ?side _; case side => (first | omega | (with_reducible exact Below.size (by assumption)) | (simp; done) | (simp; omega))) | with_reducible refine Below.drew ?_ | with_reducible refine below_drewN ?_ _ | (with_reducible refine below_step (by assumption) ?side ?_; case side => (first | omega | (with_reducible exact Below.size (by assumption)) | (simp; done) | (simp; omega))))⟩
  rw [e3] at c3; replace c3 := Lib.hid c3; clear e3
  cases e4 : wn of 0 99
  · rw [e4] at c4; replace c4 := Lib.hid c4; replace c5 := Lib.hid c5; clear e4
    go_enter Tryz.func90, Tryz.ntmps90
    go_wp2_with (first | (go_at_call 45; refine (c0.out _).mono ?_; rintro e w' ⟨rfl, rfl⟩) | (go_at_call 89; (first | with_reducible refine (c1.out _).mono ?_ | with_reducible refine (c2.out _).mono ?_ | with_reducible refine (c3.out _).mono ?_ | with_reducible refine (c4.out _).mono ?_ | with_reducible refine (c5.out _).mono ?_); rintro e w' ⟨rfl, rfl⟩))
    go_ret
    exact ⟨rfl, by (repeat first | with_reducible assumption | with_reducible exact Below.refl _ _ | (with_reducible refine Below.alloc ?_ ?side _; case side => (first | omega | (with_reducible exact Below.size (by assumption)) | (simp; done) | (simp; omega))) | (with_reducible refine Below.setCell ?_ ?side _; case side => (first | omega | (with_reducible exact Below.size (by assumption)) | (simp; done) | (simp; omega))) | with_reducible refine Below.drew ?_ | with_reducible refine below_drewN ?_ _ | (with_reducible refine below_step (by assumption) ?side ?_; case side => (first | omega | (with_reducible exact Below.size (by assumption)) | (simp; done) | (simp; omega))))⟩
  rw [e4] at c4; replace c4 := Lib.hid c4; clear e4
  cases e5 : wn lo (-50) hi
  · rw [e5] at c5; replace c5 := Lib.hid c5; clear e5
    go_enter Tryz.func90, Tryz.ntmps90
    go_wp2_with (first | (go_at_call 45; refine (c0.out _).mono ?_; rintro e w' ⟨rfl, rfl⟩) | (go_at_call 89; (first | with_reducible refine (c1.out _).mono ?_ | with_reducible refine (c2.out _).mono ?_ | with_reducible refine (c3.out _).mono ?_ | with_reducible refine (c4.out _).mono ?_ | with_reducible refine (c5.out _).mono ?_); rintro e w' ⟨rfl, rfl⟩))
    go_ret
    exact ⟨rfl, by (repeat first | with_reducible assumption | with_reducible exact Below.refl _ _ | (with_reducible refine Below.alloc ?_ ?side _; case side => (first | omega | (with_reducible exact Below.size (by assumption)) | (simp; done) | (simp; omega))) | (with_reducible refine Below.setCell ?_ ?side _; case side => (first | omega | (with_reducible exact Below.size (by assumption)) | (simp; done) | (simp; omega))) | with_reducible refine Below.drew ?_ | with_reducible refine below_drewN ?_ _ | (with_reducible refine below_step (by assumption) ?side ?_; case side => (first | omega | (with_reducible exact Below.size (by assumption)) | (simp; done) | (simp; omega))))⟩
  rw [e5] at c5; replace c5 := Lib.hid c5; clear e5
  cases e6 : decide (hi ≤ 50)
  · have g6 := of_decide_eq_false e6
    go_enter Tryz.func90, Tryz.ntmps90
    go_wp2_with (first | (go_at_call 45; refine (c0.out _).mono ?_; rintro e w' ⟨rfl, rfl⟩) | (go_at_call 89; (first | with_reducible refine (c1.out _).mono ?_ | with_reducible refine (c2.out _).mono ?_ | with_reducible refine (c3.out _).mono ?_ | with_reducible refine (c4.out _).mono ?_ | with_reducible refine (c5.out _).mono ?_); rintro e w' ⟨rfl, rfl⟩))
    go_ret
    exact ⟨rfl, by (repeat first | with_reducible assumption | with_reducible exact Below.refl _ _ | (with_reducible refine Below.alloc ?_ ?side _; case side => (first | omega | (with_reducible exact Below.size (by assumption)) | (simp; done) | (simp; omega))) | (with_reducible refine Below.setCell ?_ ?side _; case side => (first | omega | (with_reducible exact Below.size (by assumption)) | (simp; done) | (simp; omega))) | with_reducible refine Below.drew ?_ | with_reducible refine below_drewN ?_ _ | (with_reducible refine below_step (by assumption) ?side ?_; case side => (first | omega | (with_reducible exact Below.size (by assumption)) | (simp; done) | (simp; omega))))⟩
  · have g6 := of_decide_eq_true e6
    go_enter Tryz.func90, Tryz.ntmps90
    go_wp2_with (first | (go_at_call 45; refine (c0.out _).mono ?_; rintro e w' ⟨rfl, rfl⟩) | (go_at_call 89; (first | with_reducible refine (c1.out _).mono ?_ | with_reducible refine (c2.out _).mono ?_ | with_reducible refine (c3.out _).mono ?_ | with_reducible refine (c4.out _).mono ?_ | with_reducible refine (c5.out _).mono ?_); rintro e w' ⟨rfl, rfl⟩))
    go_ret
    exact ⟨rfl, by (repeat first | with_reducible assumption | with_reducible exact Below.refl _ _ | (with_reducible refine Below.alloc ?_ ?side _; case side => (first | omega | (with_reducible exact Below.size (by assumption)) | (simp; done) | (simp; omega))) | (with_reducible refine Below.setCell ?_ ?side _; case side => (first | omega | (with_reducible exact Below.size (by assumption)) | (simp; done) | (simp; omega))) | with_reducible refine Below.drew ?_ | with_reducible refine below_drewN ?_ _ | (with_reducible refine below_step (by assumption) ?side ?_; case side => (first | omega | (with_reducible exact Below.size (by assumption)) | (simp; done) | (simp; omega))))⟩
theorem allN_list {α : Type} {xs : List α} {d : α} {f : α → Bool} : (allN xs.length fun k => f (xs.getD k d)) = xs.all f := by
  rw [Bool.eq_iff_iff, allN_iff, List.all_eq_true]
  constructor
  · intro h x hx
    obtain ⟨k, hk, rfl⟩ := List.getElem_of_mem hx
    have := h k hk
    rwa [List.getD_eq_getElem?_getD, List.getElem?_eq_getElem hk] at this
  · intro h k hk
    rw [List.getD_eq_getElem?_getD, List.getElem?_eq_getElem hk]
    exact h _ (List.getElem_mem hk)
def er4 (b : Bool) : Int := bif b then 0 else 40
set_option maxRecDepth 100000 in
set_option maxHeartbeats 3200000 in
theorem check4_c (Ar : Option Addr) (nr cr : Nat) (Ad : Option Addr) (nd cd : Nat) (p : P4) (w : World) (hnr : nr ≤ 40) (hnd : nd ≤ 40) (HM : MemP Ar nr Ad nd p w) :
    Calls Tryz.prog 72 #[.agg #[.int .i64 p.ir, .int .i64 p.glo, .int .i64 p.ghi, .slice Ar nr cr, .slice Ad nd cd, .int .i64 p.wr]] w fun e w' => e = .returned (.int .i64 (er4 (ck4 p))) ∧ Below w.heap.size w w' := by
  have enA : ∀ args w, (callFunc 88 args).run Tryz.prog w = .ok (.enter 88 args) w := enters_of Tryz.func88 (by kernel_rfl) rfl
  have enB : ∀ args w, (callFunc 90 args).run Tryz.prog w = .ok (.enter 90 args) w := enters_of Tryz.func90 (by kernel_rfl) rfl
  have lr := HM.hr.1
  have ld := HM.hd.1
  have cA := fun V (hV : Below w.heap.size w V) => allRo_c Ar nr cr 88 #[] #[] p.rods (fun k => ckRo4 (roAt p.rods k)) V hnr (HM.hr.later hV) enA (fun k hk w' hb => by simpa using ckRo4_c (roAt p.rods k) w')
  have cB0 := fun V (hV : Below w.heap.size w V) (hl : w.heap.size < V.heap.size) (hc : V.cell? ⟨w.heap.size, 3, none⟩ = some (.slice Ar nr cr)) => allRe_c Ad nd cd 90 #[] #[.pointer (some ⟨w.heap.size, 0, none⟩)] p.res (fun k => ckRe4 nr (reAt p.res k)) V hnd (HM.hd.later hV) enB
    (fun k hk w' hb => by simpa using ckRe4_c w.heap.size Ar nr cr p.ir p.glo p.ghi (reAt p.res k) w' hnr (Nat.lt_of_lt_of_le hl hb.size) ((hb.cell (p := ⟨w.heap.size, 3, none⟩) hl).trans hc))
  have k1 : (allN nr fun k => ckRo4 (roAt p.rods k)) = p.rods.all ckRo4 := by rw [← lr]; exact allN_list
  have k2 : (allN nd fun k => ckRe4 nr (reAt p.res k)) = p.res.all (ckRe4 nr) := by rw [← ld]; exact allN_list
  rw [k1] at cA
  rw [k2] at cB0
  obtain ⟨ck, hck⟩ : ∃ x, ck4 p = x := ⟨_, rfl⟩
  rw [hck]
  unfold ck4 at hck
  rw [lr, ld] at hck
  simp only [Bool.and_assoc] at hck
  clear k1 k2 HM lr ld enA enB
  obtain ⟨ir, glo, ghi, wr, rods, res⟩ := p
  simp only at hck cA cB0 ⊢
  have c1 := fun V => within4_c ir 0 50 V
  have c2 := fun V => within4_c glo 1 ghi V
  have c3 := fun V => within4_c wr 0 8 V
  generalize rods.all ckRo4 = A at cA hck
  generalize res.all (ckRe4 nr) = B at cB0 hck
  replace cA := Lib.hid cA
  replace cB0 := Lib.hid cB0
  cases e1 : wn ir 0 50
  · rw [e1] at hck c1; have hck := Lib.hid hck.symm; replace c1 := Lib.hid c1; replace c2 := Lib.hid c2; replace c3 := Lib.hid c3
    go_enter Tryz.func72, Tryz.ntmps72
    go_upto_region 3 with (fail)
    go_name_world X hX
    have BX : Below w.heap.size w X := (al1 hX).1
    have q0 := (al1_0 hX).2.1
    have l0' := (al1_0 hX).1
    have cB := Lib.hid (cB0.out X BX l0' (q0 3))
    clear hX
    go_wp2_with (first | (go_at_call 91; refine (cA.out _ BX).mono ?_; (rintro e wA ⟨rfl, hA⟩); (have qA := fun j => (hA.cell (p := ⟨w.heap.size, j, none⟩) l0').trans (q0 j)); (have lA := Nat.lt_of_lt_of_le l0' hA.size); (have BA := BX.trans (hA.mono BX.size)); (have cB := Lib.hid (cB0.out _ BA lA (qA 3))); clear hA) | (go_at_call 92; refine cB.out.mono ?_; (rintro e wB ⟨rfl, hB⟩); (have BB := BA.trans (hB.mono BA.size)); clear hB) | (go_at_call 89; (first | with_reducible refine (c1.out _).mono ?_ | with_reducible refine (c2.out _).mono ?_ | with_reducible refine (c3.out _).mono ?_); rintro e w' ⟨rfl, rfl⟩))
    go_ret
    exact ⟨ret_int (by rw [hck.out]; rfl), by first | exact BB | exact BA | exact BX⟩
  rw [e1] at hck c1; replace c1 := Lib.hid c1; clear e1
  cases e2 : wn glo 1 ghi
  · rw [e2] at hck c2; have hck := Lib.hid hck.symm; replace c2 := Lib.hid c2; replace c3 := Lib.hid c3
    go_enter Tryz.func72, Tryz.ntmps72
    go_upto_region 3 with (fail)
    go_name_world X hX
    have BX : Below w.heap.size w X := (al1 hX).1
    have q0 := (al1_0 hX).2.1
    have l0' := (al1_0 hX).1
    have cB := Lib.hid (cB0.out X BX l0' (q0 3))
    clear hX
    go_wp2_with (first | (go_at_call 91; refine (cA.out _ BX).mono ?_; (rintro e wA ⟨rfl, hA⟩); (have qA := fun j => (hA.cell (p := ⟨w.heap.size, j, none⟩) l0').trans (q0 j)); (have lA := Nat.lt_of_lt_of_le l0' hA.size); (have BA := BX.trans (hA.mono BX.size)); (have cB := Lib.hid (cB0.out _ BA lA (qA 3))); clear hA) | (go_at_call 92; refine cB.out.mono ?_; (rintro e wB ⟨rfl, hB⟩); (have BB := BA.trans (hB.mono BA.size)); clear hB) | (go_at_call 89; (first | with_reducible refine (c1.out _).mono ?_ | with_reducible refine (c2.out _).mono ?_ | with_reducible refine (c3.out _).mono ?_); rintro e w' ⟨rfl, rfl⟩))
    go_ret
    exact ⟨ret_int (by rw [hck.out]; rfl), by first | exact BB | exact BA | exact BX⟩
  rw [e2] at hck c2; replace c2 := Lib.hid c2; clear e2
  by_cases g3 : ghi ≤ 99999
  case neg =>
    rw [decide_eq_false g3] at hck; have hck := Lib.hid hck.symm; replace c3 := Lib.hid c3
    have gB : decide ((99999 : Int) < ghi) = true := by simp; omega
    go_enter Tryz.func72, Tryz.ntmps72
    go_upto_region 3 with (fail)
    go_name_world X hX
    have BX : Below w.heap.size w X := (al1 hX).1
    have q0 := (al1_0 hX).2.1
    have l0' := (al1_0 hX).1
    have cB := Lib.hid (cB0.out X BX l0' (q0 3))
    clear hX
    go_wp2_with (first | (go_at_call 91; refine (cA.out _ BX).mono ?_; (rintro e wA ⟨rfl, hA⟩); (have qA := fun j => (hA.cell (p := ⟨w.heap.size, j, none⟩) l0').trans (q0 j)); (have lA := Nat.lt_of_lt_of_le l0' hA.size); (have BA := BX.trans (hA.mono BX.size)); (have cB := Lib.hid (cB0.out _ BA lA (qA 3))); clear hA) | (go_at_call 92; refine cB.out.mono ?_; (rintro e wB ⟨rfl, hB⟩); (have BB := BA.trans (hB.mono BA.size)); clear hB) | (go_at_call 89; (first | with_reducible refine (c1.out _).mono ?_ | with_reducible refine (c2.out _).mono ?_ | with_reducible refine (c3.out _).mono ?_); rintro e w' ⟨rfl, rfl⟩))
    go_ret
    exact ⟨ret_int (by rw [hck.out]; rfl), by first | exact BB | exact BA | exact BX⟩
  rw [decide_eq_true g3] at hck
  have g3B : decide ((99999 : Int) < ghi) = false := by simp; omega
  cases e4 : wn wr 0 8
  · rw [e4] at hck c3; have hck := Lib.hid hck.symm; replace c3 := Lib.hid c3
    go_enter Tryz.func72, Tryz.ntmps72
    go_upto_region 3 with (fail)
    go_name_world X hX
    have BX : Below w.heap.size w X := (al1 hX).1
    have q0 := (al1_0 hX).2.1
    have l0' := (al1_0 hX).1
    have cB := Lib.hid (cB0.out X BX l0' (q0 3))
    clear hX
    go_wp2_with (first | (go_at_call 91; refine (cA.out _ BX).mono ?_; (rintro e wA ⟨rfl, hA⟩); (have qA := fun j => (hA.cell (p := ⟨w.heap.size, j, none⟩) l0').trans (q0 j)); (have lA := Nat.lt_of_lt_of_le l0' hA.size); (have BA := BX.trans (hA.mono BX.size)); (have cB := Lib.hid (cB0.out _ BA lA (qA 3))); clear hA) | (go_at_call 92; refine cB.out.mono ?_; (rintro e wB ⟨rfl, hB⟩); (have BB := BA.trans (hB.mono BA.size)); clear hB) | (go_at_call 89; (first | with_reducible refine (c1.out _).mono ?_ | with_reducible refine (c2.out _).mono ?_ | with_reducible refine (c3.out _).mono ?_); rintro e w' ⟨rfl, rfl⟩))
    go_ret
    exact ⟨ret_int (by rw [hck.out]; rfl), by first | exact BB | exact BA | exact BX⟩
  rw [e4] at hck c3; replace c3 := Lib.hid c3; clear e4
  by_cases g5 : nr ≤ 4
  case neg =>
    rw [decide_eq_false g5] at hck; have hck := Lib.hid hck.symm
    have gB : decide ((4 : Int) < nr) = true := by simp; omega
    go_enter Tryz.func72, Tryz.ntmps72
    go_upto_region 3 with (fail)
    go_name_world X hX
    have BX : Below w.heap.size w X := (al1 hX).1
    have q0 := (al1_0 hX).2.1
    have l0' := (al1_0 hX).1
    have cB := Lib.hid (cB0.out X BX l0' (q0 3))
    clear hX
    go_wp2_with (first | (go_at_call 91; refine (cA.out _ BX).mono ?_; (rintro e wA ⟨rfl, hA⟩); (have qA := fun j => (hA.cell (p := ⟨w.heap.size, j, none⟩) l0').trans (q0 j)); (have lA := Nat.lt_of_lt_of_le l0' hA.size); (have BA := BX.trans (hA.mono BX.size)); (have cB := Lib.hid (cB0.out _ BA lA (qA 3))); clear hA) | (go_at_call 92; refine cB.out.mono ?_; (rintro e wB ⟨rfl, hB⟩); (have BB := BA.trans (hB.mono BA.size)); clear hB) | (go_at_call 89; (first | with_reducible refine (c1.out _).mono ?_ | with_reducible refine (c2.out _).mono ?_ | with_reducible refine (c3.out _).mono ?_); rintro e w' ⟨rfl, rfl⟩))
    go_ret
    exact ⟨ret_int (by rw [hck.out]; rfl), by first | exact BB | exact BA | exact BX⟩
  rw [decide_eq_true g5] at hck
  have g5B : decide ((4 : Int) < nr) = false := by simp; omega
  by_cases g6 : nd ≤ 8
  case neg =>
    rw [decide_eq_false g6] at hck; have hck := Lib.hid hck.symm
    have gB : decide ((8 : Int) < nd) = true := by simp; omega
    go_enter Tryz.func72, Tryz.ntmps72
    go_upto_region 3 with (fail)
    go_name_world X hX
    have BX : Below w.heap.size w X := (al1 hX).1
    have q0 := (al1_0 hX).2.1
    have l0' := (al1_0 hX).1
    have cB := Lib.hid (cB0.out X BX l0' (q0 3))
    clear hX
    go_wp2_with (first | (go_at_call 91; refine (cA.out _ BX).mono ?_; (rintro e wA ⟨rfl, hA⟩); (have qA := fun j => (hA.cell (p := ⟨w.heap.size, j, none⟩) l0').trans (q0 j)); (have lA := Nat.lt_of_lt_of_le l0' hA.size); (have BA := BX.trans (hA.mono BX.size)); (have cB := Lib.hid (cB0.out _ BA lA (qA 3))); clear hA) | (go_at_call 92; refine cB.out.mono ?_; (rintro e wB ⟨rfl, hB⟩); (have BB := BA.trans (hB.mono BA.size)); clear hB) | (go_at_call 89; (first | with_reducible refine (c1.out _).mono ?_ | with_reducible refine (c2.out _).mono ?_ | with_reducible refine (c3.out _).mono ?_); rintro e w' ⟨rfl, rfl⟩))
    go_ret
    exact ⟨ret_int (by rw [hck.out]; rfl), by first | exact BB | exact BA | exact BX⟩
  rw [decide_eq_true g6] at hck
  have g6B : decide ((8 : Int) < nd) = false := by simp; omega
  cases A
  · have hck := Lib.hid hck.symm
    go_enter Tryz.func72, Tryz.ntmps72
    go_upto_region 3 with (fail)
    go_name_world X hX
    have BX : Below w.heap.size w X := (al1 hX).1
    have q0 := (al1_0 hX).2.1
    have l0' := (al1_0 hX).1
    have cB := Lib.hid (cB0.out X BX l0' (q0 3))
    clear hX
    go_wp2_with (first | (go_at_call 91; refine (cA.out _ BX).mono ?_; (rintro e wA ⟨rfl, hA⟩); (have qA := fun j => (hA.cell (p := ⟨w.heap.size, j, none⟩) l0').trans (q0 j)); (have lA := Nat.lt_of_lt_of_le l0' hA.size); (have BA := BX.trans (hA.mono BX.size)); (have cB := Lib.hid (cB0.out _ BA lA (qA 3))); clear hA) | (go_at_call 92; refine cB.out.mono ?_; (rintro e wB ⟨rfl, hB⟩); (have BB := BA.trans (hB.mono BA.size)); clear hB) | (go_at_call 89; (first | with_reducible refine (c1.out _).mono ?_ | with_reducible refine (c2.out _).mono ?_ | with_reducible refine (c3.out _).mono ?_); rintro e w' ⟨rfl, rfl⟩))
    go_ret
    exact ⟨ret_int (by rw [hck.out]; rfl), by first | exact BB | exact BA | exact BX⟩
  cases B
  · have hck := Lib.hid hck.symm
    go_enter Tryz.func72, Tryz.ntmps72
    go_upto_region 3 with (fail)
    go_name_world X hX
    have BX : Below w.heap.size w X := (al1 hX).1
    have q0 := (al1_0 hX).2.1
    have l0' := (al1_0 hX).1
    have cB := Lib.hid (cB0.out X BX l0' (q0 3))
    clear hX
    go_wp2_with (first | (go_at_call 91; refine (cA.out _ BX).mono ?_; (rintro e wA ⟨rfl, hA⟩); (have qA := fun j => (hA.cell (p := ⟨w.heap.size, j, none⟩) l0').trans (q0 j)); (have lA := Nat.lt_of_lt_of_le l0' hA.size); (have BA := BX.trans (hA.mono BX.size)); (have cB := Lib.hid (cB0.out _ BA lA (qA 3))); clear hA) | (go_at_call 92; refine cB.out.mono ?_; (rintro e wB ⟨rfl, hB⟩); (have BB := BA.trans (hB.mono BA.size)); clear hB) | (go_at_call 89; (first | with_reducible refine (c1.out _).mono ?_ | with_reducible refine (c2.out _).mono ?_ | with_reducible refine (c3.out _).mono ?_); rintro e w' ⟨rfl, rfl⟩))
    go_ret
    exact ⟨ret_int (by rw [hck.out]; rfl), by first | exact BB | exact BA | exact BX⟩
  · have hck := Lib.hid hck.symm
    go_enter Tryz.func72, Tryz.ntmps72
    go_upto_region 3 with (fail)
    go_name_world X hX
    have BX : Below w.heap.size w X := (al1 hX).1
    have q0 := (al1_0 hX).2.1
    have l0' := (al1_0 hX).1
    have cB := Lib.hid (cB0.out X BX l0' (q0 3))
    clear hX
    go_wp2_with (first | (go_at_call 91; refine (cA.out _ BX).mono ?_; (rintro e wA ⟨rfl, hA⟩); (have qA := fun j => (hA.cell (p := ⟨w.heap.size, j, none⟩) l0').trans (q0 j)); (have lA := Nat.lt_of_lt_of_le l0' hA.size); (have BA := BX.trans (hA.mono BX.size)); (have cB := Lib.hid (cB0.out _ BA lA (qA 3))); clear hA) | (go_at_call 92; refine cB.out.mono ?_; (rintro e wB ⟨rfl, hB⟩); (have BB := BA.trans (hB.mono BA.size)); clear hB) | (go_at_call 89; (first | with_reducible refine (c1.out _).mono ?_ | with_reducible refine (c2.out _).mono ?_ | with_reducible refine (c3.out _).mono ?_); rintro e w' ⟨rfl, rfl⟩))
    go_ret
    exact ⟨ret_int (by rw [hck.out]; rfl), by first | exact BB | exact BA | exact BX⟩

end Go.Proofs.YtcbeiadimchknaaGreat
