/- The small functions of bars (layer 1); The small functions of links (layer 2). -/
import Derived.Shelf.Abstract
import Derived.Laws.EntriesVeiled
import Derived.Test.YtdhlnlmhdacblaaTs03
import Derived.Test.YtdhlnlmhdacblaaTs04
import Derived.Test.YtdhlnlmhdacblaaChecked
namespace Go.Proofs.Ytdhlnlmhdacblaa
open Go.RowKit
open Go.Sort (grow)
set_option linter.unusedVariables false
set_option linter.unusedSimpArgs false

set_option maxHeartbeats 400000 in
theorem within_c (n a b : Int) (w : World) :
    Calls Try.prog 102 #[.int .i64 n, .int .i64 a, .int .i64 b] w fun e w' => e = .returned (.bool (wi n a b)) ∧ w = w' := by
  go_enter Try.func102, Try.ntmps102
  go_wp2
  all_goals
    go_ret
    exact ⟨ret_bool (by simp [wi, *] <;> omega), rfl⟩
set_option maxHeartbeats 400000 in
theorem Within1_c (n a b : Int) (w : World) :
    Calls Try.prog 40 #[.int .i64 n, .int .i64 a, .int .i64 b] w fun e w' => e = .returned (.bool (wi n a b)) ∧ w = w' := by
  go_enter Try.func40, Try.ntmps40
  go_wp2
  all_goals
    go_ret
    exact ⟨ret_bool (by simp [wi, *] <;> omega), rfl⟩
set_option maxHeartbeats 400000 in
theorem index_c (A : Option Addr) (n c : Nat) (x : Int) (xs : List Int) (w : World) (hn : n ≤ 40) (HX : IntsAt w A n xs) :
    Calls Try.prog 76 #[.slice A n c, .int .i64 x] w fun e w' => (∃ z : Int, e = .returned (.int .i64 z) ∧ decide (0 ≤ z) = anyN n fun k => iAt xs k == x) ∧ w = w' := by
  go_enter Try.func76, Try.ntmps76
  go_wp2
  go_loopw [8] (fun i (wr : World) => ∃ k : Nat, k ≤ n ∧ i = .int .i64 k ∧ Hid (∀ j, j < k → (iAt xs j == x) = false) ∧ wr = w) (fun i _ => n - (intOf i).toNat)
  case atStart => exact ⟨0, by omega, rfl, fun j hj => absurd hj (by omega), rfl⟩
  case round =>
    obtain ⟨k, hk, rfl, H, rfl⟩ := hrel
    by_cases hlt : k < n
    · obtain ⟨b, o, rfl, hb, x0⟩ := HX.get hlt
      have hB : decide ((k : Int) < n) = true := by simp; omega
      cases e1 : (x == iAt xs k)
      · have e2 : (iAt xs k == x) = false := by rw [Bool.beq_comm]; exact e1
        have E2 := Lib.hid e2
        clear e2
        go_wp2
        go_roundw
        case rel => exact ⟨k + 1, by omega, by go_num, fun j hj => by
          rcases Nat.lt_succ_iff_lt_or_eq.1 hj with h | rfl
          · exact H.out j h
          · exact E2.out, trivial⟩
        case measure => simp [intOf]; omega
      · have hA := anyN_yes (p := fun k => iAt xs k == x) hlt (by rw [Bool.beq_comm]; exact e1)
        have HA := Lib.hid hA
        clear hA
        go_wp2
        go_ret
        exact ⟨⟨_, rfl, by rw [HA.out]; simp⟩, rfl⟩
    · obtain rfl : n = k := by omega
      have hA := Lib.hid (anyN_no (p := fun k => iAt xs k == x) H.out)
      have hB : decide (((n : Nat) : Int) < n) = false := by simp
      clear H
      go_wp2
      go_ret
      exact ⟨⟨_, rfl, by rw [hA.out]; rfl⟩, rfl⟩
set_option maxHeartbeats 400000 in
theorem contains_c (A : Option Addr) (n c : Nat) (x : Int) (xs : List Int) (w : World) (hn : n ≤ 40) (HX : IntsAt w A n xs) :
    Calls Try.prog 51 #[.slice A n c, .int .i64 x] w fun e w' => e = .returned (.bool (hasI xs x)) ∧ w = w' := by
  have hl := HX.1
  have e0 : hasI xs x = anyN n fun k => iAt xs k == x := by unfold hasI; rw [hl]
  have hc := index_c A n c x xs w hn HX
  rw [e0]
  obtain ⟨R, hR⟩ : ∃ R, (anyN n fun k => iAt xs k == x) = R := ⟨_, rfl⟩
  rw [hR] at hc ⊢
  replace hc := Lib.hid hc
  clear hR e0 HX hl
  go_enter Try.func51, Try.ntmps51
  go_wp2_with fail
  refine hc.out.mono ?_
  rintro e w' ⟨⟨z, rfl, hz⟩, rfl⟩
  go_wp2
  go_ret
  exact ⟨rfl, rfl⟩
theorem int_info : (Try.prog.info? 3).map (fun i => (i.zero, i.size, i.bytes)) = some (some (.int .i64 0), 1, 8) := by kernel_rfl
theorem intE : ElemT Try.prog 36 3 1 8 := by
  obtain ⟨i0, hi0, hz0, hz1, hz2⟩ := info_parts int_info
  exact ⟨Try.underlying36, ⟨i0, _, hi0, hz0, hz1, hz2, rfl⟩, by omega, by omega⟩
theorem eql_nil {P : Program} {a : Option Addr} {n c : Nat} (w : World) {t : TypeId} (e : TypeId) (h : P.underlying t = some (.slice e)) : (binOp .eql t (.slice a n c) (.slice none 0 0)).run P w = .ok (.bool a.isNone) w := by
  simp only [binOp]
  simp [Op.equal, Op.maxDepth, Lib.run_equalIn_slice_nil w 9999 t e a n c 0 0 h]
set_option maxRecDepth 100000 in
set_option maxHeartbeats 800000 in
/-- a copy of a slice, in new memory -/
theorem clone_c (A : Option Addr) (n c : Nat) (xs : List Int) (w : World) (hn : n ≤ 1000) (HX : IntsAt w A n xs) :
    Calls Try.prog 73 #[.slice A n c] w fun e w' => ∃ A1 c1, e = .returned (.slice A1 n c1) ∧ w'.ownsRow w.heap.size 3 1 (.slice A1 n c1) n (xs.flatMap encI) ∧ Below w.heap.size w w' := by
  have HXI := Lib.hid HX
  clear HX
  cases A with
  | none =>
    have h0 : n = 0 := by
      rcases Nat.eq_zero_or_pos n with h | h
      · exact h
      · obtain ⟨b, o, e, -⟩ := HXI.out.2 h; cases e
    subst h0
    have hx0 : xs = [] := List.eq_nil_of_length_eq_zero HXI.out.1
    subst hx0
    have hnil : ∀ w, (binOp .eql 36 (.slice none 0 c) (.slice none 0 0)).run Try.prog w = .ok (.bool true) w := fun w => eql_nil w _ Try.underlying36
    go_enter Try.func73, Try.ntmps73
    go_wp2
    go_ret
    exact ⟨none, 0, rfl, World.ownsRow_nil _ _ _ _, Below.refl _ _⟩
  | some a =>
    have hnil : ∀ w, (binOp .eql 36 (.slice (some a) n c) (.slice none 0 0)).run Try.prog w = .ok (.bool false) w := fun w => eql_nil w _ Try.underlying36
    go_enter Try.func73, Try.ntmps73
    go_wp2_with (at_builtin; go_must (refine wpList_append_T _ (d := (0 : Int)) rfl (.tmp 5) (.tmp 6) _ rfl w.heap.size _ 1 8 intE encI_len encI_one (.slice (some ⟨w.heap.size, 0, none⟩) 0 0) (some w.heap.size) 0 [] rfl rfl ?ow (some a) n c xs rfl ?sl (by omega) ?sz ?_; (case ow => exact own_empty (by first | (simp; done) | (simp; omega)) (by simp)); (case sz => (first | (simp; done) | (simp; omega))); (case sl => exact ints_iff.1 (HXI.out.later (by (repeat first | with_reducible assumption | with_reducible exact Below.refl _ _ | (with_reducible refine Below.alloc ?_ ?side _; case side => (first | omega | (with_reducible exact Below.size (by assumption)) | (simp; done) | (simp; omega))) | (with_reducible refine Below.setCell ?_ ?side _; case side => (first | omega | (with_reducible exact Below.size (by assumption)) | (simp; done) | (simp; omega))) | with_reducible refine Below.drew ?_ | with_reducible refine below_drewN ?_ _ | (with_reducible refine below_step (by assumption) ?side ?_; case side => (first | omega | (with_reducible exact Below.size (by assumption)) | (simp; done) | (simp; omega))))))); (rintro v8 w8 ho8 hg8 ha8); (rw [Nat.zero_add, List.nil_append] at ho8); (obtain ⟨A8, C8, rfl, -, -⟩ := SlAt.of_own (d := (0 : Int)) encI_len ho8 HXI.out.1); (have hb8 : Below w.heap.size w w8 := (Below.grown (by (repeat first | with_reducible assumption | with_reducible exact Below.refl _ _ | (with_reducible refine Below.alloc ?_ ?side _; case side => (first | omega | (with_reducible exact Below.size (by assumption)) | (simp; done) | (simp; omega))) | (with_reducible refine Below.setCell ?_ ?side _; case side => (first | omega | (with_reducible exact Below.size (by assumption)) | (simp; done) | (simp; omega))) | with_reducible refine Below.drew ?_ | with_reducible refine below_drewN ?_ _ | (with_reducible refine below_step (by assumption) ?side ?_; case side => (first | omega | (with_reducible exact Below.size (by assumption)) | (simp; done) | (simp; omega))))) hg8 (by simp) (fun k hk => (by cases hk; omega)))); (have hO8 := Lib.hid ho8); (clear ho8 ha8 hg8)))
    go_ret
    exact ⟨A8, C8, rfl, hO8.out, hb8⟩

end Go.Proofs.Ytdhlnlmhdacblaa

namespace Go.Proofs.Ytdhlnlmhdacblaa
open Go.RowKit
open Go.Sort (grow)
set_option linter.unusedVariables false
set_option linter.unusedSimpArgs false

set_option maxHeartbeats 400000 in
theorem within2_c (n a b : Int) (w : World) :
    Calls Try.prog 53 #[.int .i64 n, .int .i64 a, .int .i64 b] w fun e w' => e = .returned (.bool (wn n a b)) ∧ w = w' := by
  go_enter Try.func53, Try.ntmps53
  go_wp2
  all_goals
    go_ret
    exact ⟨ret_bool (by simp [wn, *] <;> omega), rfl⟩
set_option maxHeartbeats 400000 in
theorem Within2_c (n a b : Int) (w : World) :
    Calls Try.prog 29 #[.int .i64 n, .int .i64 a, .int .i64 b] w fun e w' => e = .returned (.bool (wn n a b)) ∧ w = w' := by
  go_enter Try.func29, Try.ntmps29
  go_wp2
  all_goals
    go_ret
    exact ⟨ret_bool (by simp [wn, *] <;> omega), rfl⟩
set_option maxHeartbeats 400000 in
theorem isMark_c (x y a : Int) (w : World) :
    Calls Try.prog 56 #[.int .i64 x, .int .i64 y, .int .i64 a] w fun e w' => e = .returned (.bool (wn x a 99 && wn y a 99)) ∧ w = w' := by
  go_enter Try.func56, Try.ntmps56
  go_wp2_with (go_at_call 53; refine (within2_c _ _ _ _).mono ?_; rintro e w' ⟨rfl, rfl⟩)
  all_goals
    go_ret
    exact ⟨ret_bool (by simp [*]), rfl⟩
set_option maxHeartbeats 400000 in
theorem grows_c (d : Dd) (w : World) :
    Calls Try.prog 55 #[.agg #[.int .i64 d.wh, .int .i64 d.pl, .int .i64 d.fr, .int .i64 d.ba, .int .i64 d.sm]] w fun e w' => e = .returned (.int .i64 (gr2 d)) ∧ Below w.heap.size w w' := by
  obtain ⟨wh, pl, fr, ba, sm⟩ := d
  unfold gr2
  simp only
  cases e1 : (wh == 1) <;> cases e2 : (wh == 2)
  all_goals
    go_enter Try.func55, Try.ntmps55
    go_wp2
    go_ret
    exact ⟨rfl, by (repeat first | with_reducible assumption | with_reducible exact Below.refl _ _ | (with_reducible refine Below.alloc ?_ ?side _; case side => (first | omega | (with_reducible exact Below.size (by assumption)) | (simp; done) | (simp; omega))) | (with_reducible refine Below.setCell ?_ ?side _; case side => (first | omega | (with_reducible exact Below.size (by assumption)) | (simp; done) | (simp; omega))) | with_reducible refine Below.drew ?_ | with_reducible refine below_drewN ?_ _ | (with_reducible refine below_step (by assumption) ?side ?_; case side => (first | omega | (with_reducible exact Below.size (by assumption)) | (simp; done) | (simp; omega))))⟩
set_option maxRecDepth 100000 in
set_option maxHeartbeats 1600000 in
theorem isDeed_c (d : Dd) (m : Int) (w : World) (hm : -40 ≤ m ∧ m ≤ 40) :
    Calls Try.prog 54 #[.agg #[.int .i64 d.wh, .int .i64 d.pl, .int .i64 d.fr, .int .i64 d.ba, .int .i64 d.sm], .int .i64 m] w fun e w' => e = .returned (.bool (dk2 d m)) ∧ Below w.heap.size w w' := by
  obtain ⟨wh, pl, fr, ba, sm⟩ := d
  have hw : IntKind.i64.wrap (m - 1) = m - 1 := IntWalk.i64_in _ (by omega)
  have k0 : (pl == pl) = true := by simp
  have k1 : (fr == fr) = true := by simp
  have k2 : (wh == wh) = true := by simp
  unfold dk2
  simp only
  cases e1 : (wh == 1)
  · cases e2 : (wh == 2)
    · cases e3 : (wh == 3)
      · cases e4 : (wh == 4)
        · go_enter Try.func54, Try.ntmps54
          go_wp2
          go_ret
          exact ⟨rfl, by (repeat first | with_reducible assumption | with_reducible exact Below.refl _ _ | (with_reducible refine Below.alloc ?_ ?side _; case side => (first | omega | (with_reducible exact Below.size (by assumption)) | (simp; done) | (simp; omega))) | (with_reducible refine Below.setCell ?_ ?side _; case side => (first | omega | (with_reducible exact Below.size (by assumption)) | (simp; done) | (simp; omega))) | with_reducible refine Below.drew ?_ | with_reducible refine below_drewN ?_ _ | (with_reducible refine below_step (by assumption) ?side ?_; case side => (first | omega | (with_reducible exact Below.size (by assumption)) | (simp; done) | (simp; omega))))⟩
        · cases h1 : (pl == 0) <;> cases h2 : (fr == 0) <;> cases h3 : (ba == 0) <;> cases h4 : (sm == 0)
          all_goals
            go_enter Try.func54, Try.ntmps54
            go_wp2
            go_ret
            exact ⟨ret_bool (by first | rfl | simp [*]), by (repeat first | with_reducible assumption | with_reducible exact Below.refl _ _ | (with_reducible refine Below.alloc ?_ ?side _; case side => (first | omega | (with_reducible exact Below.size (by assumption)) | (simp; done) | (simp; omega))) | (with_reducible refine Below.setCell ?_ ?side _; case side => (first | omega | (with_reducible exact Below.size (by assumption)) | (simp; done) | (simp; omega))) | with_reducible refine Below.drew ?_ | with_reducible refine below_drewN ?_ _ | (with_reducible refine below_step (by assumption) ?side ?_; case side => (first | omega | (with_reducible exact Below.size (by assumption)) | (simp; done) | (simp; omega))))⟩
      · cases h1 : (pl == 0) <;> cases h2 : (fr == 0) <;> cases h3 : (ba == 0) <;> cases h4 : (sm == 0)
        all_goals
          go_enter Try.func54, Try.ntmps54
          go_wp2
          go_ret
          exact ⟨ret_bool (by first | rfl | simp [*]), by (repeat first | with_reducible assumption | with_reducible exact Below.refl _ _ | (with_reducible refine Below.alloc ?_ ?side _; case side => (first | omega | (with_reducible exact Below.size (by assumption)) | (simp; done) | (simp; omega))) | (with_reducible refine Below.setCell ?_ ?side _; case side => (first | omega | (with_reducible exact Below.size (by assumption)) | (simp; done) | (simp; omega))) | with_reducible refine Below.drew ?_ | with_reducible refine below_drewN ?_ _ | (with_reducible refine below_step (by assumption) ?side ?_; case side => (first | omega | (with_reducible exact Below.size (by assumption)) | (simp; done) | (simp; omega))))⟩
    · cases h3 : (ba == 0) <;> cases h4 : (sm == 0)
      all_goals
        go_enter Try.func54, Try.ntmps54
        go_wp2_with (go_at_call 53; refine (within2_c _ _ _ _).mono ?_; rintro e w' ⟨rfl, rfl⟩)
        all_goals
          go_ret
          exact ⟨ret_bool (by first | rfl | simp [*]), by (repeat first | with_reducible assumption | with_reducible exact Below.refl _ _ | (with_reducible refine Below.alloc ?_ ?side _; case side => (first | omega | (with_reducible exact Below.size (by assumption)) | (simp; done) | (simp; omega))) | (with_reducible refine Below.setCell ?_ ?side _; case side => (first | omega | (with_reducible exact Below.size (by assumption)) | (simp; done) | (simp; omega))) | with_reducible refine Below.drew ?_ | with_reducible refine below_drewN ?_ _ | (with_reducible refine below_step (by assumption) ?side ?_; case side => (first | omega | (with_reducible exact Below.size (by assumption)) | (simp; done) | (simp; omega))))⟩
  · go_enter Try.func54, Try.ntmps54
    go_wp2_with (first | (go_at_call 53; refine (within2_c _ _ _ _).mono ?_; rintro e w' ⟨rfl, rfl⟩) | (go_at_call 56; refine (isMark_c _ _ _ _).mono ?_; rintro e w' ⟨rfl, rfl⟩))
    all_goals
      go_ret
      exact ⟨ret_bool (by first | rfl | simp [*]), by (repeat first | with_reducible assumption | with_reducible exact Below.refl _ _ | (with_reducible refine Below.alloc ?_ ?side _; case side => (first | omega | (with_reducible exact Below.size (by assumption)) | (simp; done) | (simp; omega))) | (with_reducible refine Below.setCell ?_ ?side _; case side => (first | omega | (with_reducible exact Below.size (by assumption)) | (simp; done) | (simp; omega))) | with_reducible refine Below.drew ?_ | with_reducible refine below_drewN ?_ _ | (with_reducible refine below_step (by assumption) ?side ?_; case side => (first | omega | (with_reducible exact Below.size (by assumption)) | (simp; done) | (simp; omega))))⟩
set_option maxRecDepth 100000 in
set_option maxHeartbeats 1600000 in
theorem refDeed_c (d : Dd) (m : Int) (w : World) (hm : -40 ≤ m ∧ m ≤ 40) :
    Calls Try.prog 52 #[.agg #[.int .i64 d.wh, .int .i64 d.pl, .int .i64 d.fr, .int .i64 d.ba, .int .i64 d.sm], .int .i64 m] w fun e w' => e = .returned (.bool (dk2 d m)) ∧ Below w.heap.size w w' := by
  obtain ⟨wh, pl, fr, ba, sm⟩ := d
  have hw : IntKind.i64.wrap (m - 1) = m - 1 := IntWalk.i64_in _ (by omega)
  have k2 : (wh == wh) = true := by simp
  unfold dk2
  simp only
  cases e1 : (wh == 1)
  · cases e2 : (wh == 2)
    · cases e3 : (wh == 3)
      · cases e4 : (wh == 4)
        · go_enter Try.func52, Try.ntmps52
          go_wp2
          go_ret
          exact ⟨rfl, by (repeat first | with_reducible assumption | with_reducible exact Below.refl _ _ | (with_reducible refine Below.alloc ?_ ?side _; case side => (first | omega | (with_reducible exact Below.size (by assumption)) | (simp; done) | (simp; omega))) | (with_reducible refine Below.setCell ?_ ?side _; case side => (first | omega | (with_reducible exact Below.size (by assumption)) | (simp; done) | (simp; omega))) | with_reducible refine Below.drew ?_ | with_reducible refine below_drewN ?_ _ | (with_reducible refine below_step (by assumption) ?side ?_; case side => (first | omega | (with_reducible exact Below.size (by assumption)) | (simp; done) | (simp; omega))))⟩
        · cases h1 : (pl == 0) <;> cases h2 : (fr == 0) <;> cases h3 : (ba == 0) <;> cases h4 : (sm == 0)
          all_goals
            go_enter Try.func52, Try.ntmps52
            go_wp2
            go_ret
            exact ⟨ret_bool (by first | rfl | simp [*]), by (repeat first | with_reducible assumption | with_reducible exact Below.refl _ _ | (with_reducible refine Below.alloc ?_ ?side _; case side => (first | omega | (with_reducible exact Below.size (by assumption)) | (simp; done) | (simp; omega))) | (with_reducible refine Below.setCell ?_ ?side _; case side => (first | omega | (with_reducible exact Below.size (by assumption)) | (simp; done) | (simp; omega))) | with_reducible refine Below.drew ?_ | with_reducible refine below_drewN ?_ _ | (with_reducible refine below_step (by assumption) ?side ?_; case side => (first | omega | (with_reducible exact Below.size (by assumption)) | (simp; done) | (simp; omega))))⟩
      · cases h1 : (pl == 0) <;> cases h2 : (fr == 0) <;> cases h3 : (ba == 0) <;> cases h4 : (sm == 0)
        all_goals
          go_enter Try.func52, Try.ntmps52
          go_wp2
          go_ret
          exact ⟨ret_bool (by first | rfl | simp [*]), by (repeat first | with_reducible assumption | with_reducible exact Below.refl _ _ | (with_reducible refine Below.alloc ?_ ?side _; case side => (first | omega | (with_reducible exact Below.size (by assumption)) | (simp; done) | (simp; omega))) | (with_reducible refine Below.setCell ?_ ?side _; case side => (first | omega | (with_reducible exact Below.size (by assumption)) | (simp; done) | (simp; omega))) | with_reducible refine Below.drew ?_ | with_reducible refine below_drewN ?_ _ | (with_reducible refine below_step (by assumption) ?side ?_; case side => (first | omega | (with_reducible exact Below.size (by assumption)) | (simp; done) | (simp; omega))))⟩
    · cases h3 : (ba == 0) <;> cases h4 : (sm == 0)
      all_goals
        go_enter Try.func52, Try.ntmps52
        go_wp2_with (go_at_call 29; refine (Within2_c _ _ _ _).mono ?_; rintro e w' ⟨rfl, rfl⟩)
        all_goals
          go_ret
          exact ⟨ret_bool (by first | rfl | simp [*]), by (repeat first | with_reducible assumption | with_reducible exact Below.refl _ _ | (with_reducible refine Below.alloc ?_ ?side _; case side => (first | omega | (with_reducible exact Below.size (by assumption)) | (simp; done) | (simp; omega))) | (with_reducible refine Below.setCell ?_ ?side _; case side => (first | omega | (with_reducible exact Below.size (by assumption)) | (simp; done) | (simp; omega))) | with_reducible refine Below.drew ?_ | with_reducible refine below_drewN ?_ _ | (with_reducible refine below_step (by assumption) ?side ?_; case side => (first | omega | (with_reducible exact Below.size (by assumption)) | (simp; done) | (simp; omega))))⟩
  · go_enter Try.func52, Try.ntmps52
    go_wp2_with (go_at_call 29; refine (Within2_c _ _ _ _).mono ?_; rintro e w' ⟨rfl, rfl⟩)
    all_goals
      go_ret
      exact ⟨ret_bool (by first | rfl | simp [*]), by (repeat first | with_reducible assumption | with_reducible exact Below.refl _ _ | (with_reducible refine Below.alloc ?_ ?side _; case side => (first | omega | (with_reducible exact Below.size (by assumption)) | (simp; done) | (simp; omega))) | (with_reducible refine Below.setCell ?_ ?side _; case side => (first | omega | (with_reducible exact Below.size (by assumption)) | (simp; done) | (simp; omega))) | with_reducible refine Below.drew ?_ | with_reducible refine below_drewN ?_ _ | (with_reducible refine below_step (by assumption) ?side ?_; case side => (first | omega | (with_reducible exact Below.size (by assumption)) | (simp; done) | (simp; omega))))⟩
theorem intE2 : ElemT Try.prog 36 3 1 8 := by
  obtain ⟨i0, hi0, hz0, hz1, hz2⟩ := info_parts (P := Try.prog) (show (Try.prog.info? 3).map (fun i => (i.zero, i.size, i.bytes)) = some (some (.int .i64 0), 1, 8) by kernel_rfl)
  exact ⟨Try.underlying36, ⟨i0, _, hi0, hz0, hz1, hz2, rfl⟩, by omega, by omega⟩

end Go.Proofs.Ytdhlnlmhdacblaa
