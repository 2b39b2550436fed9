/- Fits of scrap (layer 11); proves and Proof of scrap (layer 11); Proof of scrap (layer 11). -/
import Derived.Test.YtdhlnlmhdacblaaSj39
import Derived.Test.YtdhlnlmhdacblaaSj44
namespace Go.Proofs.Ytdhlnlmhdacblaa
open Go.RowKit
open Go.Sort (grow)
set_option linter.unusedVariables false
set_option linter.unusedSimpArgs false



end Go.Proofs.Ytdhlnlmhdacblaa

namespace Go.Proofs.Ytdhlnlmhdacblaa
open Go.RowKit
open Go.Sort (grow)
set_option linter.unusedVariables false
set_option linter.unusedSimpArgs false

def hsB (s : Nat) (i : Int) : Bool := decide (0 ≤ i) && s.testBit i.toNat
theorem hasB_c (s : Nat) (i : Int) (w : World) (hs : s < 65536) (hi : i < 64) :
    Calls Try.prog 66 #[.int .u64 s, .int .i64 i] w fun e w' => e = .returned (.bool (hsB s i)) ∧ w = w' := has_c_q11 s i w hs hi
def sumF (f : Nat → Int) : Nat → Int
  | 0 => 0
  | k + 1 => sumF f k + f k
/-- what line l brings to the places of a set: at the least, at the most -/
def prA (s : Nat) (l : Ln) : Int := bif hsB s l.to then (bif hsB s l.fr then -l.s.hi else l.w.lo - l.s.hi) else (bif hsB s l.fr then -l.w.hi else 0)
def prB (s : Nat) (l : Ln) : Int := bif hsB s l.to then (bif hsB s l.fr then -l.s.lo else l.w.hi - l.s.lo) else (bif hsB s l.fr then -l.w.lo else 0)
def prC (s : Nat) (pl : List Sp) (i : Nat) : Int := bif hsB s (i : Int) then -(spAt pl i).hi else 0
def prD (s : Nat) (pl : List Sp) (i : Nat) : Int := bif hsB s (i : Int) then -(spAt pl i).lo else 0
def leastV (np nl : Nat) (pl : List Sp) (ls : List Ln) (s : Nat) : Int := sumF (fun i => prA s (lnAt ls i)) nl + sumF (prC s pl) np
def mostV (np nl : Nat) (pl : List Sp) (ls : List Ln) (s : Nat) : Int := sumF (fun i => prB s (lnAt ls i)) nl + sumF (prD s pl) np
def prvB (np nl : Nat) (pl : List Sp) (ls : List Ln) (s : Nat) : Bool := decide (0 < leastV np nl pl ls s) || decide (mostV np nl pl ls s < 0)
theorem sumF_bd {f : Nat → Int} {M : Int} (h : ∀ k, -M ≤ f k ∧ f k ≤ M) (k : Nat) : -(k * M) ≤ sumF f k ∧ sumF f k ≤ k * M := by
  induction k with
  | zero => simp [sumF]
  | succ k ih =>
    have := h k
    have e : ((k + 1 : Nat) : Int) * M = k * M + M := by rw [Int.natCast_add, Int.add_mul]; simp
    simp only [sumF, e]
    omega
theorem prA_bd {np nl : Nat} {pl : List Sp} {ls : List Ln} (h : OkBk np nl pl ls) (s k : Nat) : (-1998 ≤ prA s (lnAt ls k) ∧ prA s (lnAt ls k) ≤ 1998) ∧ -1998 ≤ prB s (lnAt ls k) ∧ prB s (lnAt ls k) ≤ 1998 := by
  have := h.ln k
  unfold prA prB
  cases hsB s (lnAt ls k).to <;> cases hsB s (lnAt ls k).fr <;> simp <;> omega
theorem prC_bd {np nl : Nat} {pl : List Sp} {ls : List Ln} (h : OkBk np nl pl ls) (s k : Nat) : (-999 ≤ prC s pl k ∧ prC s pl k ≤ 999) ∧ -999 ≤ prD s pl k ∧ prD s pl k ≤ 999 := by
  have := h.sp k
  unfold prC prD
  cases hsB s (k : Int) <;> simp <;> omega

end Go.Proofs.Ytdhlnlmhdacblaa

namespace Go.Proofs.Ytdhlnlmhdacblaa
open Go.RowKit
open Go.Sort (grow)
set_option linter.unusedVariables false
set_option linter.unusedSimpArgs false

/-- the first set of places that proves -/
def prfO (np nl : Nat) (pl : List Sp) (ls : List Ln) : Option Nat := (List.range (2 ^ np)).find? fun s => s != 0 && prvB np nl pl ls s
/-- the members of a set below k -/
def memK (s k : Nat) : List Nat := (List.range k).filter s.testBit
theorem memK_succ {s k : Nat} (h : s.testBit k = true) : memK s (k + 1) = memK s k ++ [k] := by simp [memK, List.range_succ, List.filter_append, h]
theorem memK_succ_no {s k : Nat} (h : s.testBit k = false) : memK s (k + 1) = memK s k := by simp [memK, List.range_succ, List.filter_append, h]
theorem memK_len (s k : Nat) : (memK s k).length ≤ k := by
  have := List.length_filter_le s.testBit (List.range k)
  simpa [memK] using this
theorem prfO_none {np nl : Nat} {pl : List Sp} {ls : List Ln} (h : ∀ s, s < 2 ^ np → (s != 0 && prvB np nl pl ls s) = false) : prfO np nl pl ls = none := by
  unfold prfO
  rw [List.find?_eq_none]
  intro s hs
  simp only [h s (by simpa using hs)]
  simp
theorem prfO_some {np nl s : Nat} {pl : List Sp} {ls : List Ln} (hs : s < 2 ^ np) (h : (s != 0 && prvB np nl pl ls s) = true) (h0 : ∀ t, t < s → (t != 0 && prvB np nl pl ls t) = false) : prfO np nl pl ls = some s := by
  have h1 := idxN_some (n := 2 ^ np) (p := fun s => s != 0 && prvB np nl pl ls s) hs h h0
  unfold idxN at h1
  unfold prfO
  cases e : (List.range (2 ^ np)).find? (fun s => s != 0 && prvB np nl pl ls s) with
  | none => rw [e] at h1; simp at h1
  | some j => rw [e] at h1; simp at h1; simp; omega

/-- what Proof hands back -/
def PrfRet (np nl : Nat) (pl : List Sp) (ls : List Ln) (wrg : Int) (e : Ending) (w' : World) : Prop :=
  bif ckBk np nl pl ls wrg then (match prfO np nl pl ls with
    | none => e = .returned (.tuple #[.slice none 0 0, .int .i64 3])
    | some s => ∃ A c, e = .returned (.tuple #[.slice A (memK s np).length c, .int .i64 0]) ∧ IntsAt w' A (memK s np).length ((memK s np).map fun k : Nat => (k : Int)))
  else e = .returned (.tuple #[.slice none 0 0, .int .i64 110])

end Go.Proofs.Ytdhlnlmhdacblaa
