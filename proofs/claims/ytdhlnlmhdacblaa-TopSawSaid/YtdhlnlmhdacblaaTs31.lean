/- Sets of lines and of nodes (layer 11): has; can. -/
import Derived.Test.YtdhlnlmhdacblaaTs30
import Derived.Test.YtdhlnlmhdacblaaTs28
namespace Go.Proofs.Ytdhlnlmhdacblaa
open Go.RowKit
open Go.Sort (grow)
set_option linter.unusedVariables false
set_option linter.unusedSimpArgs false

set_option maxHeartbeats 400000 in
theorem has_c_q11 (s : Nat) (i : Int) (w : World) (hs : s < 65536) (hi : i < 64) :
    Calls Try.prog 66 #[.int .u64 s, .int .i64 i] w fun e w' => e = .returned (.bool (decide (0 ≤ i) && s.testBit i.toNat)) ∧ w = w' := by
  by_cases h : 0 ≤ i
  · obtain ⟨n, rfl⟩ := Int.eq_ofNat_of_zero_le h
    go_enter Try.func66, Try.ntmps66
    go_wp2
    go_ret
    exact ⟨ret_bool (by rw [bit_u64 s n hs]; simp), rfl⟩
  · go_enter Try.func66, Try.ntmps66
    go_wp2
    go_ret
    exact ⟨ret_bool (by rw [decide_eq_false (by omega)]; rfl), rfl⟩

set_option maxHeartbeats 400000 in
theorem can1_c (s b : Nat) (i : Int) (w : World) (hs : s < 128) (h0 : 0 ≤ i) (hi : i < 64) (q : w.cell? ⟨b, 0, none⟩ = some (.int .u64 s)) :
    Calls Try.prog 70 #[.int .i64 i, .pointer (some ⟨b, 0, none⟩)] w fun e w' => e = .returned (.bool (s.testBit i.toNat)) ∧ w = w' := by
  obtain ⟨n, rfl⟩ := Int.eq_ofNat_of_zero_le h0
  go_enter Try.func70, Try.ntmps70
  go_wp2
  go_ret
  exact ⟨ret_bool (by rw [bit_u64 s n (by omega)]; simp), rfl⟩

/-- how much the first k pipes must carry out of a set of nodes, and how much they can carry into it -/
def outTo (pp : List Pp) (S : Nat) : Nat → Int
  | 0 => 0
  | k + 1 => outTo pp S k + (bif S.testBit (ppAt pp k).fr.toNat && !S.testBit (ppAt pp k).to.toNat then (ppAt pp k).lo else 0)
def inTo (pp : List Pp) (S : Nat) : Nat → Int
  | 0 => 0
  | k + 1 => inTo pp S k + (bif S.testBit (ppAt pp k).to.toNat && !S.testBit (ppAt pp k).fr.toNat then (ppAt pp k).hi else 0)
/-- what the walk needs of a net: nodes from 0 to 6, moderate bounds -/
def okPp (p : Pp) : Prop := 0 ≤ p.fr ∧ p.fr < 7 ∧ 0 ≤ p.to ∧ p.to < 7 ∧ -100000 ≤ p.lo ∧ p.lo ≤ 100000 ∧ -100000 ≤ p.hi ∧ p.hi ≤ 100000
theorem outTo_bd {pp : List Pp} (h : ∀ k, okPp (ppAt pp k)) (S k : Nat) : -(k * 100000 : Int) ≤ outTo pp S k ∧ outTo pp S k ≤ (k * 100000 : Int) ∧ -(k * 100000 : Int) ≤ inTo pp S k ∧ inTo pp S k ≤ (k * 100000 : Int) := by
  induction k with
  | zero => simp [outTo, inTo]
  | succ k ih =>
    obtain ⟨_, _, _, _, h1, h2, h3, h4⟩ := h k
    simp only [outTo, inTo]
    cases S.testBit (ppAt pp k).fr.toNat <;> cases S.testBit (ppAt pp k).to.toNat <;> simp <;> omega
def canL (n : Nat) (pp : List Pp) : Bool := allN 128 fun S => decide (outTo pp S n ≤ inTo pp S n)

set_option maxRecDepth 100000 in
set_option maxHeartbeats 800000 in
theorem can_c (A : Option Addr) (n c : Nat) (pp : List Pp) (w : World) (hn : n ≤ 40) (HP : PpsAt w A n pp) (hok : ∀ k, okPp (ppAt pp k)) :
    Calls Try.prog 47 #[.slice A n c] w fun e w' => e = .returned (.bool (canL n pp)) ∧ Below w.heap.size w w' := by
  have HPI := Lib.hid HP
  have HO := Lib.hid hok
  have HB := Lib.hid (outTo_bd hok)
  have en : ∀ args w, (callFunc 70 args).run Try.prog w = .ok (.enter 70 args) w := enters_of Try.func70 (by kernel_rfl) rfl
  clear HP hok
  go_enter Try.func47, Try.ntmps47
  go_wp2
  go_loopw [9] (fun i (wr : World) => ∃ S : Nat, S ≤ 128 ∧ i = .int .u64 S ∧ Hid (∀ T, T < S → decide (outTo pp T n ≤ inTo pp T n) = true) ∧ Below w.heap.size w wr) (fun i _ => 128 - (intOf i).toNat)
  case atStart => exact ⟨0, by omega, rfl, fun j hj => absurd hj (by omega), Below.refl _ _⟩
  case round =>
    obtain ⟨S, hS, rfl, H1, hb⟩ := hrel
    have zb := hb.size
    by_cases hlt : S < 128
    · have hltB : decide ((S : Int) < 128) = true := by simp; omega
      obtain ⟨wo, rfl⟩ : ∃ wo : World, wo = wr := ⟨_, rfl⟩
      go_wp2
      go_name_world W hW
      obtain ⟨hB, hz⟩ := al1 hW
      obtain ⟨l_0, q_0, f_0⟩ := al1_0 hW
      have HZ := Lib.hid hz
      have zs := hB.size
      clear hW hz
      go_loopw [5, 6, 15] (fun o i j (wr : World) => ∃ k : Nat, k ≤ n ∧ j = .int .i64 k ∧ o = .int .i64 (outTo pp S k) ∧ i = .int .i64 (inTo pp S k) ∧ Below W.heap.size W wr) (fun _ _ j _ => n - (intOf j).toNat)
      case atStart => exact ⟨0, by omega, rfl, rfl, rfl, Below.refl _ _⟩
      case round =>
        obtain ⟨k, hk, rfl, rfl, rfl, hb2⟩ := hrel
        have zb2 := hb2.size
        have q0 : wr.cell? ⟨wo.heap.size, 0, none⟩ = some (.int .u64 S) := (hb2.cell (p := ⟨wo.heap.size, 0, none⟩) l_0).trans (q_0 0)
        have m0 := Nat.lt_of_lt_of_le l_0 zb2
        obtain ⟨b1, b2, b3, b4⟩ := HB.out S k
        by_cases hkn : k < n
        · have hbw : Below w.heap.size w wr := by (repeat first | with_reducible assumption | with_reducible exact Below.refl _ _ | refine below_drewN ?_ _ | refine Below.drew ?_ | refine Below.alloc ?_ (by first | omega | (with_reducible exact Below.size (by assumption)) | (simp; done) | (simp; omega)) _ | refine Below.setCell ?_ (by first | omega | (with_reducible exact Below.size (by assumption)) | (simp; done) | (simp; omega)) _ | refine below_step (by assumption) (by first | omega | (with_reducible exact Below.size (by assumption)) | (simp; done) | (simp; omega)) ?_)
          obtain ⟨bp, op, rfl, hbp, x0, x1, x2, x3⟩ := (HPI.out.later hbw).get hkn
          obtain ⟨o1, o2, o3, o4, o5, o6, o7, o8⟩ := HO.out k
          clear q_0 f_0
          cases e1 : S.testBit (ppAt pp k).fr.toNat <;> cases e2 : S.testBit (ppAt pp k).to.toNat
          all_goals
            go_wp2_with (go_at_call 70; refine (can1_c S wo.heap.size _ _ hlt (by omega) (by omega) (by rw [World.cell?_alloc_lt _ _ _ m0]; exact q0)).mono ?_; rintro e w' ⟨rfl, rfl⟩)
            go_roundw
            case rel => exact ⟨k + 1, by omega, by go_num, congrArg _ (by simp [outTo, e1, e2]), congrArg _ (by simp [inTo, e1, e2]), by (repeat first | with_reducible assumption | with_reducible exact Below.refl _ _ | refine below_drewN ?_ _ | refine Below.drew ?_ | refine Below.alloc ?_ (by first | omega | (with_reducible exact Below.size (by assumption)) | (simp; done) | (simp; omega)) _ | refine Below.setCell ?_ (by first | omega | (with_reducible exact Below.size (by assumption)) | (simp; done) | (simp; omega)) _ | refine below_step (by assumption) (by first | omega | (with_reducible exact Below.size (by assumption)) | (simp; done) | (simp; omega)) ?_)⟩
            case measure => simp [intOf]; omega
        · obtain rfl : n = k := by omega
          have hbw : Below w.heap.size w wr := by (repeat first | with_reducible assumption | with_reducible exact Below.refl _ _ | refine below_drewN ?_ _ | refine Below.drew ?_ | refine Below.alloc ?_ (by first | omega | (with_reducible exact Below.size (by assumption)) | (simp; done) | (simp; omega)) _ | refine Below.setCell ?_ (by first | omega | (with_reducible exact Below.size (by assumption)) | (simp; done) | (simp; omega)) _ | refine below_step (by assumption) (by first | omega | (with_reducible exact Below.size (by assumption)) | (simp; done) | (simp; omega)) ?_)
          clear q_0 f_0
          cases e3 : decide (outTo pp S n ≤ inTo pp S n)
          all_goals
            have e4 : decide (inTo pp S n < outTo pp S n) = !decide (outTo pp S n ≤ inTo pp S n) := dec_lt _ _
            rw [e3] at e4
            have E3 := Lib.hid e3
            clear e3
            go_wp2
          · go_ret
            exact ⟨ret_bool (by have := E3.out; exact (allN_no (n := 128) (p := fun S => decide (outTo pp S n ≤ inTo pp S n)) (k := S) (by omega) this).symm), by (repeat first | with_reducible assumption | with_reducible exact Below.refl _ _ | refine below_drewN ?_ _ | refine Below.drew ?_ | refine Below.alloc ?_ (by first | omega | (with_reducible exact Below.size (by assumption)) | (simp; done) | (simp; omega)) _ | refine Below.setCell ?_ (by first | omega | (with_reducible exact Below.size (by assumption)) | (simp; done) | (simp; omega)) _ | refine below_step (by assumption) (by first | omega | (with_reducible exact Below.size (by assumption)) | (simp; done) | (simp; omega)) ?_)⟩
          · go_roundw
            case rel => exact ⟨S + 1, by omega, by go_num, fun T hT => by
              rcases Nat.lt_succ_iff_lt_or_eq.1 hT with h | rfl
              · exact H1.out T h
              · exact E3.out, hbw⟩
            case measure => simp [intOf]; omega
    · obtain rfl : S = 128 := by omega
      go_wp2
      go_ret
      exact ⟨ret_bool (by exact (allN_iff.2 H1.out).symm), hb⟩

end Go.Proofs.Ytdhlnlmhdacblaa
