/- The data of layer 11: lines and pipes that are read from memory. -/
import Derived.Test.YtoehifincdflhaaBase
namespace Go.Proofs.Ytoehifincdflhaa
open Go.RowKit
open Go.Sort (grow)
set_option linter.unusedVariables false

structure Ln where
  fr : Int
  to : Int
  w : Sp
  s : Sp
deriving DecidableEq

def lnAt (xs : List Ln) (k : Nat) : Ln := xs.getD k ⟨0, 0, ⟨0, 0⟩, ⟨0, 0⟩⟩

structure Pp where
  fr : Int
  to : Int
  lo : Int
  hi : Int
deriving DecidableEq

def ppAt (xs : List Pp) (k : Nat) : Pp := xs.getD k ⟨0, 0, 0, 0⟩

def LnsAt (w : World) (A : Option Addr) (n : Nat) (xs : List Ln) : Prop :=
  xs.length = n ∧ RowsAt w 6 A n fun k => [.int .i64 (lnAt xs k).fr, .int .i64 (lnAt xs k).to, .int .i64 (lnAt xs k).w.lo, .int .i64 (lnAt xs k).w.hi, .int .i64 (lnAt xs k).s.lo, .int .i64 (lnAt xs k).s.hi]
def PpsAt (w : World) (A : Option Addr) (n : Nat) (xs : List Pp) : Prop :=
  xs.length = n ∧ RowsAt w 4 A n fun k => [.int .i64 (ppAt xs k).fr, .int .i64 (ppAt xs k).to, .int .i64 (ppAt xs k).lo, .int .i64 (ppAt xs k).hi]

section
variable {w w' : World} {n : Nat} {A : Option Addr}
theorem LnsAt.later {xs : List Ln} (h : LnsAt w A n xs) (hb : Below w.heap.size w w') : LnsAt w' A n xs := ⟨h.1, h.2.later hb⟩
theorem PpsAt.later {xs : List Pp} (h : PpsAt w A n xs) (hb : Below w.heap.size w w') : PpsAt w' A n xs := ⟨h.1, h.2.later hb⟩
theorem LnsAt.get {xs : List Ln} (h : LnsAt w A n xs) {k : Nat} (hk : k < n) : ∃ b off, A = some ⟨b, off, none⟩ ∧ b < w.heap.size ∧
    w.cell? ⟨b, off + k * 6, none⟩ = some (.int .i64 (lnAt xs k).fr) ∧ w.cell? ⟨b, off + k * 6 + 1, none⟩ = some (.int .i64 (lnAt xs k).to) ∧
    w.cell? ⟨b, off + k * 6 + 2, none⟩ = some (.int .i64 (lnAt xs k).w.lo) ∧ w.cell? ⟨b, off + k * 6 + 3, none⟩ = some (.int .i64 (lnAt xs k).w.hi) ∧
    w.cell? ⟨b, off + k * 6 + 4, none⟩ = some (.int .i64 (lnAt xs k).s.lo) ∧ w.cell? ⟨b, off + k * 6 + 5, none⟩ = some (.int .i64 (lnAt xs k).s.hi) := by
  obtain ⟨b, off, e, hb, hc⟩ := h.2 (by omega)
  exact ⟨b, off, e, hb, hc k hk 0 _ rfl, hc k hk 1 _ rfl, hc k hk 2 _ rfl, hc k hk 3 _ rfl, hc k hk 4 _ rfl, hc k hk 5 _ rfl⟩
theorem PpsAt.get {xs : List Pp} (h : PpsAt w A n xs) {k : Nat} (hk : k < n) : ∃ b off, A = some ⟨b, off, none⟩ ∧ b < w.heap.size ∧
    w.cell? ⟨b, off + k * 4, none⟩ = some (.int .i64 (ppAt xs k).fr) ∧ w.cell? ⟨b, off + k * 4 + 1, none⟩ = some (.int .i64 (ppAt xs k).to) ∧
    w.cell? ⟨b, off + k * 4 + 2, none⟩ = some (.int .i64 (ppAt xs k).lo) ∧ w.cell? ⟨b, off + k * 4 + 3, none⟩ = some (.int .i64 (ppAt xs k).hi) := by
  obtain ⟨b, off, e, hb, hc⟩ := h.2 (by omega)
  exact ⟨b, off, e, hb, hc k hk 0 _ rfl, hc k hk 1 _ rfl, hc k hk 2 _ rfl, hc k hk 3 _ rfl⟩
end

end Go.Proofs.Ytoehifincdflhaa
