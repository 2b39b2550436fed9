/- bits.OnesCount of small sets; The small functions of the specification of layer 11: has, many, In, SameInts; In and SameInts of the specification of layer 1; Accounts: IsRight, Wrongs, Change, IsAccount, IsTruth of the specification (layer 11); IsAccount and IsTruth of the specification (layer 11). -/
import Derived.Test.YtdhlnlmhdacblaaChecked
import Derived.Test.YtdhlnlmhdacblaaTs28
import Derived.Test.YtdhlnlmhdacblaaTs04
namespace Go.Proofs.Ytdhlnlmhdacblaa
open Go.RowKit
open Go.Sort (grow)
set_option linter.unusedVariables false
set_option linter.unusedSimpArgs false

def oc1 (x : Int) : Int := IntKind.u64.wrap (bits .and .u64 (x / 2) 6148914691236517205 + bits .and .u64 x 6148914691236517205)
def oc2 (x : Int) : Int := IntKind.u64.wrap (bits .and .u64 (x / 4) 3689348814741910323 + bits .and .u64 x 3689348814741910323)
def oc3 (x : Int) : Int := bits .and .u64 (IntKind.u64.wrap (x / 16 + x)) 1085102592571150095
def oc4 (x : Int) : Int := IntKind.u64.wrap (x + x / 256)
def oc5 (x : Int) : Int := IntKind.u64.wrap (x + x / 65536)
def oc6 (x : Int) : Int := IntKind.u64.wrap (x + x / 4294967296)
def oc7 (x : Int) : Int := bits .and .i64 (wrap64 x) 127
def oc (x : Int) : Int := oc7 (oc6 (oc5 (oc4 (oc3 (oc2 (oc1 x))))))
/-- how many of the first n bits are set -/
def cnt (n s : Nat) : Nat := ((List.range n).filter s.testBit).length
theorem oc_all : (List.range 256).all (fun s => oc s == cnt 8 s) = true := by decide +kernel
theorem oc_eq (s : Nat) (h : s < 256) : oc s = cnt 8 s := by
  have := List.all_eq_true.1 oc_all s (by simpa using h)
  simpa using this

set_option maxHeartbeats 400000 in
theorem ones64_c (s : Nat) (w : World) (hs : s < 256) :
    Calls Try.prog 80 #[.int .u64 s] w fun e w' => e = .returned (.int .i64 (cnt 8 s)) ∧ w = w' := by
  have H := Lib.hid (oc_eq s hs)
  go_enter Try.func80, Try.ntmps80
  go_wp2
  go_ret
  exact ⟨ret_int (by rw [← H.out]; rfl), rfl⟩

set_option maxHeartbeats 400000 in
theorem ones_c (s : Nat) (w : World) (hs : s < 256) :
    Calls Try.prog 64 #[.int .u64 s] w fun e w' => e = .returned (.int .i64 (cnt 8 s)) ∧ w = w' := by
  go_enter Try.func64, Try.ntmps64
  go_wp2_with (go_at_call 80; refine (ones64_c _ _ hs).mono ?_; rintro e w' ⟨rfl, rfl⟩)
  go_ret
  exact ⟨rfl, rfl⟩

end Go.Proofs.Ytdhlnlmhdacblaa

namespace Go.Proofs.Ytdhlnlmhdacblaa
open Go.RowKit
open Go.Sort (grow)
set_option linter.unusedVariables false
set_option linter.unusedSimpArgs false

theorem i64_and1_q11 (n : Int) : bits .and .i64 n 1 = n % 2 := by
  have h127 : (BitVec.ofInt 64 1).toNat = 2 ^ 1 - 1 := by decide
  have key : (BitVec.ofInt 64 n &&& BitVec.ofInt 64 1).toNat = (n % ((2 ^ 64 : Nat) : Int)).toNat % 2 ^ 1 := by
    rw [BitVec.toNat_and, BitVec.toNat_ofInt, h127, Nat.and_two_pow_sub_one_eq_mod]
  show IntKind.i64.wrap ((BitVec.ofInt 64 n &&& BitVec.ofInt 64 1).toNat : Nat) = n % 2
  rw [key, IntKind.wrap_i64]
  omega
/-- a number's bits, from below -/
def manyN : Nat → Nat → Nat
  | 0, _ => 0
  | n + 1, s => s % 2 + manyN n (s / 2)
theorem many_all : (List.range 256).all (fun s => manyN 8 s == cnt 8 s) = true := by decide +kernel

end Go.Proofs.Ytdhlnlmhdacblaa

namespace Go.Proofs.Ytdhlnlmhdacblaa
open Go.RowKit
open Go.Sort (grow)
set_option linter.unusedVariables false
set_option linter.unusedSimpArgs false

set_option maxHeartbeats 400000 in
theorem In_c_q11 (A : Option Addr) (n c : Nat) (x : Int) (xs : List Int) (w : World) (hn : n ≤ 40) (HX : IntsAt w A n xs) :
    Calls Try.prog 100 #[.slice A n c, .int .i64 x] w fun e w' => e = .returned (.bool (anyN n fun k => iAt xs k == x)) ∧ w = w' := by
  go_enter Try.func100, Try.ntmps100
  go_wp2
  go_loopw [5] (fun i (wr : World) => ∃ k : Nat, k ≤ n ∧ i = .int .i64 k ∧ Hid (∀ j, j < k → (iAt xs j == x) = false) ∧ wr = w) (fun i _ => n - (intOf i).toNat)
  case atStart => exact ⟨0, by omega, rfl, fun j hj => absurd hj (by omega), rfl⟩
  case round =>
    obtain ⟨k, hk, rfl, H, rfl⟩ := hrel
    by_cases hlt : k < n
    · obtain ⟨b, o, rfl, hb, x0⟩ := HX.get hlt
      have hB : decide ((k : Int) < n) = true := by simp; omega
      cases e1 : (iAt xs k == x)
      · go_wp2
        go_roundw
        case rel => exact ⟨k + 1, by omega, by go_num, fun j hj => by
          rcases Nat.lt_succ_iff_lt_or_eq.1 hj with h | rfl
          · exact H.out j h
          · exact e1, trivial⟩
        case measure => simp [intOf]; omega
      · have hA := anyN_yes (p := fun k => iAt xs k == x) hlt e1
        go_wp2
        go_ret
        exact ⟨ret_bool hA.symm, rfl⟩
    · obtain rfl : n = k := by omega
      have hA := anyN_no (p := fun k => iAt xs k == x) H.out
      have hB : decide (((n : Nat) : Int) < n) = false := by simp
      clear H
      go_wp2
      go_ret
      exact ⟨ret_bool hA.symm, rfl⟩

set_option maxHeartbeats 400000 in
theorem SameInts_c_q11 (A B : Option Addr) (n m c d : Nat) (xs ys : List Int) (w : World) (hn : n ≤ 40) (hm : m ≤ 40) (HX : IntsAt w A n xs) (HY : IntsAt w B m ys) :
    Calls Try.prog 24 #[.slice A n c, .slice B m d] w fun e w' => e = .returned (.bool (n == m && allN n fun k => iAt xs k == iAt ys k)) ∧ Below w.heap.size w w' := by
  cases e0 : (n == m)
  · have hne : n ≠ m := by simpa using e0
    go_enter Try.func24, Try.ntmps24
    go_wp2
    go_ret
    exact ⟨rfl, by (repeat first | with_reducible assumption | with_reducible exact Below.refl _ _ | refine below_drewN ?_ _ | refine Below.drew ?_ | refine Below.alloc ?_ (by first | omega | (with_reducible exact Below.size (by assumption)) | (simp; done) | (simp; omega)) _ | refine Below.setCell ?_ (by first | omega | (with_reducible exact Below.size (by assumption)) | (simp; done) | (simp; omega)) _ | refine below_step (by assumption) (by first | omega | (with_reducible exact Below.size (by assumption)) | (simp; done) | (simp; omega)) ?_)⟩
  obtain rfl : n = m := by simpa using e0
  go_enter Try.func24, Try.ntmps24
  go_wp2
  go_loopw [5] (fun i (wr : World) => ∃ k : Nat, k ≤ n ∧ i = .int .i64 k ∧ Hid (∀ j, j < k → (iAt xs j == iAt ys j) = true) ∧ Below w.heap.size w wr) (fun i _ => n - (intOf i).toNat)
  case atStart => exact ⟨0, by omega, rfl, fun j hj => absurd hj (by omega), Below.refl _ _⟩
  case round =>
    obtain ⟨k, hk, rfl, H, hb⟩ := hrel
    by_cases hlt : k < n
    · obtain ⟨b, o, rfl, hb1, x0⟩ := (HX.later hb).get hlt
      obtain ⟨b', o', rfl, hb2, y0⟩ := (HY.later hb).get hlt
      have hB : decide ((k : Int) < n) = true := by simp; omega
      cases e1 : (iAt xs k == iAt ys k)
      · have hA : allN n (fun k => iAt xs k == iAt ys k) = false := allN_no hlt e1
        go_wp2
        go_quiet (fail)
        go_wp2
        go_ret
        exact ⟨ret_bool (by rw [hA]; simp), by (repeat first | with_reducible assumption | with_reducible exact Below.refl _ _ | refine below_drewN ?_ _ | refine Below.drew ?_ | refine Below.alloc ?_ (by first | omega | (with_reducible exact Below.size (by assumption)) | (simp; done) | (simp; omega)) _ | refine Below.setCell ?_ (by first | omega | (with_reducible exact Below.size (by assumption)) | (simp; done) | (simp; omega)) _ | refine below_step (by assumption) (by first | omega | (with_reducible exact Below.size (by assumption)) | (simp; done) | (simp; omega)) ?_)⟩
      · go_wp2
        go_quiet (fail)
        go_wp2
        go_roundw
        case rel => exact ⟨k + 1, by omega, by go_num, fun j hj => by
          rcases Nat.lt_succ_iff_lt_or_eq.1 hj with h | rfl
          · exact H.out j h
          · exact e1, by (repeat first | with_reducible assumption | with_reducible exact Below.refl _ _ | refine below_drewN ?_ _ | refine Below.drew ?_ | refine Below.alloc ?_ (by first | omega | (with_reducible exact Below.size (by assumption)) | (simp; done) | (simp; omega)) _ | refine Below.setCell ?_ (by first | omega | (with_reducible exact Below.size (by assumption)) | (simp; done) | (simp; omega)) _ | refine below_step (by assumption) (by first | omega | (with_reducible exact Below.size (by assumption)) | (simp; done) | (simp; omega)) ?_)⟩
        case measure => simp [intOf]; omega
    · obtain rfl : n = k := by omega
      have hA := Lib.hid (allN_iff.2 H.out)
      have hB : decide (((n : Nat) : Int) < n) = false := by simp
      clear H
      go_wp2
      go_ret
      exact ⟨ret_bool (by rw [hA.out]; rfl), by (repeat first | with_reducible assumption | with_reducible exact Below.refl _ _ | refine below_drewN ?_ _ | refine Below.drew ?_ | refine Below.alloc ?_ (by first | omega | (with_reducible exact Below.size (by assumption)) | (simp; done) | (simp; omega)) _ | refine Below.setCell ?_ (by first | omega | (with_reducible exact Below.size (by assumption)) | (simp; done) | (simp; omega)) _ | refine below_step (by assumption) (by first | omega | (with_reducible exact Below.size (by assumption)) | (simp; done) | (simp; omega)) ?_)⟩

end Go.Proofs.Ytdhlnlmhdacblaa

namespace Go.Proofs.Ytdhlnlmhdacblaa
open Go.RowKit
open Go.Sort (grow)
set_option linter.unusedVariables false
set_option linter.unusedSimpArgs false

def isRt (ls : List Ln) (ws : List Int) (k : Nat) : Bool := wi_q11 (iAt ws k) (lnAt ls k).w.lo (lnAt ls k).w.hi

/-- how many of the first n lines are not right -/
def wrgN (ls : List Ln) (ws : List Int) (n : Nat) : Nat := ((List.range n).filter fun k => !isRt ls ws k).length
theorem wrgN_succ (ls : List Ln) (ws : List Int) (n : Nat) : wrgN ls ws (n + 1) = wrgN ls ws n + (bif isRt ls ws n then 0 else 1) := by
  unfold wrgN
  rw [List.range_succ, List.filter_append, List.length_append]
  cases h : isRt ls ws n <;> simp [h]

/-- the change of a place by the first n lines -/
def chgN (ls : List Ln) (ws ss : List Int) (p : Int) : Nat → Int
  | 0 => 0
  | n + 1 => chgN ls ws ss p n + (bif (lnAt ls n).to == p then iAt ws n - iAt ss n else 0) - (bif (lnAt ls n).fr == p then iAt ws n else 0)
theorem chgN_bd {ls : List Ln} {ws ss : List Int} {p : Int} (hw : ∀ k, 0 ≤ iAt ws k ∧ iAt ws k ≤ 999) (hs : ∀ k, 0 ≤ iAt ss k ∧ iAt ss k ≤ 999) (n : Nat) : -1998 * n ≤ chgN ls ws ss p n ∧ chgN ls ws ss p n ≤ 1998 * n := by
  induction n with
  | zero => simp [chgN]
  | succ n ih =>
    have := hw n
    have := hs n
    simp only [chgN]
    cases ((lnAt ls n).to == p) <;> cases ((lnAt ls n).fr == p) <;> simp <;> omega

end Go.Proofs.Ytdhlnlmhdacblaa

namespace Go.Proofs.Ytdhlnlmhdacblaa
open Go.RowKit
open Go.Sort (grow)
set_option linter.unusedVariables false
set_option linter.unusedSimpArgs false

def acK (ls : List Ln) (ws ss : List Int) (k : Nat) : Bool := wi_q11 (iAt ws k) (lnAt ls k).s.hi 999 && wi_q11 (iAt ss k) (lnAt ls k).s.lo (lnAt ls k).s.hi
def isAc (nl nw ns : Nat) (ls : List Ln) (ws ss : List Int) : Bool := (nw == nl && ns == nl) && allN nl (acK ls ws ss)

end Go.Proofs.Ytdhlnlmhdacblaa
