/- Words for memory that all walks share: slices of numbers and of structs that read as lists; worlds named behind new blocks. -/
import Derived.Sort.Grow
import Derived.WalkKit
import Derived.WalkSpells
import Derived.WalkLawsBesides
import Derived.Lib.Hide
import Derived.Deep.QuietTactic
import Derived.BigQuiet
import Derived.Lib.ItoaWalk
import Derived.Laws.OwnMore
import Derived.Deep.Draws
import Derived.Laws.Rows
import Derived.Lib.QuietBelow
namespace Go.Proofs.YtcbeiadimchknaaGreat
open Go.RowKit
open Go.Sort (grow)
set_option linter.unusedVariables false
set_option linter.unusedSimpArgs false

/-- the k-th number of a list (0 behind its end) -/
def iAt (xs : List Int) (k : Nat) : Int := xs.getD k 0

structure Sp where
  lo : Int
  hi : Int
deriving DecidableEq

def spAt (xs : List Sp) (k : Nat) : Sp := xs.getD k ⟨0, 0⟩

/-- the slice (A, n) reads as rows of 'size' cells each, given by f -/
def RowsAt (w : World) (size : Nat) (A : Option Addr) (n : Nat) (f : Nat → List Value) : Prop :=
  0 < n → ∃ b off, A = some ⟨b, off, none⟩ ∧ b < w.heap.size ∧ ∀ k, k < n → ∀ j u, (f k)[j]? = some u → w.cell? ⟨b, off + k * size + j, none⟩ = some u

theorem RowsAt.later {w w' : World} {size n : Nat} {A : Option Addr} {f : Nat → List Value} (h : RowsAt w size A n f) (hb : Below w.heap.size w w') : RowsAt w' size A n f := fun hn => by
  obtain ⟨b, off, e, hlt, hc⟩ := h hn
  exact ⟨b, off, e, Nat.lt_of_lt_of_le hlt hb.size, fun k hk' j u hu => (hb.cell (p := ⟨b, off + k * size + j, none⟩) hlt).trans (hc k hk' j u hu)⟩

def IntsAt (w : World) (A : Option Addr) (n : Nat) (xs : List Int) : Prop :=
  xs.length = n ∧ RowsAt w 1 A n fun k => [.int .i64 (iAt xs k)]

def SpsAt (w : World) (A : Option Addr) (n : Nat) (xs : List Sp) : Prop :=
  xs.length = n ∧ RowsAt w 2 A n fun k => [.int .i64 (spAt xs k).lo, .int .i64 (spAt xs k).hi]

section
variable {w w' : World} {n : Nat} {A : Option Addr}
theorem IntsAt.later {xs : List Int} (h : IntsAt w A n xs) (hb : Below w.heap.size w w') : IntsAt w' A n xs := ⟨h.1, h.2.later hb⟩
theorem SpsAt.later {xs : List Sp} (h : SpsAt w A n xs) (hb : Below w.heap.size w w') : SpsAt w' A n xs := ⟨h.1, h.2.later hb⟩
theorem IntsAt.get {xs : List Int} (h : IntsAt w A n xs) {k : Nat} (hk : k < n) : ∃ b off, A = some ⟨b, off, none⟩ ∧ b < w.heap.size ∧ w.cell? ⟨b, off + k, none⟩ = some (.int .i64 (iAt xs k)) := by
  obtain ⟨b, off, e, hb, hc⟩ := h.2 (by omega)
  exact ⟨b, off, e, hb, by simpa using hc k hk 0 _ rfl⟩
theorem SpsAt.get {xs : List Sp} (h : SpsAt w A n xs) {k : Nat} (hk : k < n) : ∃ b off, A = some ⟨b, off, none⟩ ∧ b < w.heap.size ∧
    w.cell? ⟨b, off + k * 2, none⟩ = some (.int .i64 (spAt xs k).lo) ∧ w.cell? ⟨b, off + k * 2 + 1, none⟩ = some (.int .i64 (spAt xs k).hi) := by
  obtain ⟨b, off, e, hb, hc⟩ := h.2 (by omega)
  exact ⟨b, off, e, hb, hc k hk 0 _ rfl, hc k hk 1 _ rfl⟩
end

/-- what lies below B reads in the later world as in the earlier one: two rules for the walk -/
theorem bcell {B : Nat} {W w1 : World} (hb : Below B W w1) : (∀ b o, b < B → w1.cell? ⟨b, o, none⟩ = W.cell? ⟨b, o, none⟩) ∧ (∀ b o, b < B → w1.frozen? ⟨b, o, none⟩ = W.frozen? ⟨b, o, none⟩) :=
  ⟨fun b o h => hb.cell (p := ⟨b, o, none⟩) h, fun b o h => hb.frozen (p := ⟨b, o, none⟩) h⟩

/-- block g is just the cells cs, none frozen -/
def Blk (w : World) (g : Nat) (t : TypeId) (cs : Array Value) : Prop := w.heap[g]? = some (.cells cs t (0, 0))

section
variable {w w' : World} {g : Nat} {t : TypeId} {cs : Array Value}
theorem Blk.lt (h : Blk w g t cs) : g < w.heap.size := by
  rcases Nat.lt_or_ge g w.heap.size with hlt | hge
  · exact hlt
  · unfold Blk at h; rw [Array.getElem?_eq_none hge] at h; cases h
theorem Blk.cell (h : Blk w g t cs) (i : Nat) : w.cell? ⟨g, i, none⟩ = cs[i]? := cell_of_row w g i cs t (0, 0) h
theorem Blk.frozen (h : Blk w g t cs) (i : Nat) : w.frozen? ⟨g, i, none⟩ = false := by
  unfold Blk at h
  simp [World.frozen?, h]
theorem Blk.new (w : World) (t : TypeId) (cs : Array Value) : Blk (w.alloc (.cells cs t)) w.heap.size t cs := heap_alloc_new w _
theorem Blk.drew (h : Blk w g t cs) : Blk w.drew g t cs := h
theorem Blk.drewN (h : Blk w g t cs) (n : Nat) : Blk (w.drewN n) g t cs := h
theorem Blk.alloc (h : Blk w g t cs) (o : Obj) : Blk (w.alloc o) g t cs := (Below.heap_alloc w o g h.lt).trans h
theorem Blk.set_ (h : Blk w g t cs) (i : Nat) (u : Value) : Blk (w.setCell ⟨g, i, none⟩ u) g t (cs.setIfInBounds i u) := by
  unfold Blk at h ⊢
  simp [World.setCell, Array.getElem?_modify, h]
theorem Blk.far (h : Blk w g t cs) {p : Addr} (hp : g ≠ p.block) (u : Value) : Blk (w.setCell p u) g t cs := (Below.heap_setCell w p u g hp).trans h
theorem Blk.below {B : Nat} (h : Blk w g t cs) (hb : Below B w w') (hg : g < B) : Blk w' g t cs := (hb.block g hg).trans h
theorem Blk.grown {row : Option Nat} (h : Blk w g t cs) (hb : w.grownBy w' row) (hg : some g ≠ row) : Blk w' g t cs := (hb.block g h.lt hg).trans h
end

theorem below_drewN {B : Nat} {a w : World} (h : Below B a w) (n : Nat) : Below B a (w.drewN n) := ⟨h.os, h.tape, h.output, h.size, h.block⟩
theorem below_step {B B' : Nat} {a b c : World} (h : Below B' b c) (hB : B ≤ B') (h0 : Below B a b) : Below B a c := h0.trans (h.mono hB)
theorem ret_int {k : IntKind} {a b : Int} (h : a = b) : Ending.returned (.int k a) = .returned (.int k b) := by rw [h]
theorem ret_bool {a b : Bool} (h : a = b) : Ending.returned (.bool a) = .returned (.bool b) := by rw [h]

theorem al1 {w W0 : World} {cs0 : Array Value} {t0 : TypeId} (h : (w.alloc (.cells cs0 t0)) = W0) : Below w.heap.size w W0 ∧ W0.heap.size = w.heap.size + 1 := by
  subst h
  exact ⟨(Below.refl _ _).alloc (Nat.le_refl _) _, by simp⟩
theorem al1_0 {w W0 : World} {cs0 : Array Value} {t0 : TypeId} (h : (w.alloc (.cells cs0 t0)) = W0) : w.heap.size < W0.heap.size ∧ (∀ i, W0.cell? ⟨w.heap.size, i, none⟩ = cs0[i]?) ∧ (∀ i, W0.frozen? ⟨w.heap.size, i, none⟩ = false) := by
  have h0 : Blk (w.alloc (.cells cs0 t0)) (w.heap.size) t0 cs0 := by have := Blk.new w t0 cs0; simpa using this
  have hb : Blk W0 (w.heap.size) t0 cs0 := by subst h; exact h0
  exact ⟨hb.lt, hb.cell, hb.frozen⟩
theorem al2 {w W0 : World} {cs0 cs1 : Array Value} {t0 t1 : TypeId} (h : ((w.alloc (.cells cs0 t0)).alloc (.cells cs1 t1)) = W0) : Below w.heap.size w W0 ∧ W0.heap.size = w.heap.size + 2 := by
  subst h
  exact ⟨((Below.refl _ _).alloc (Nat.le_refl _) _).alloc (by simp; try omega) _, by simp⟩
theorem al2_0 {w W0 : World} {cs0 cs1 : Array Value} {t0 t1 : TypeId} (h : ((w.alloc (.cells cs0 t0)).alloc (.cells cs1 t1)) = W0) : w.heap.size < W0.heap.size ∧ (∀ i, W0.cell? ⟨w.heap.size, i, none⟩ = cs0[i]?) ∧ (∀ i, W0.frozen? ⟨w.heap.size, i, none⟩ = false) := by
  have h0 : Blk (w.alloc (.cells cs0 t0)) (w.heap.size) t0 cs0 := by have := Blk.new w t0 cs0; simpa using this
  have hb : Blk W0 (w.heap.size) t0 cs0 := by subst h; exact (h0).alloc (.cells cs1 t1)
  exact ⟨hb.lt, hb.cell, hb.frozen⟩
theorem al2_1 {w W0 : World} {cs0 cs1 : Array Value} {t0 t1 : TypeId} (h : ((w.alloc (.cells cs0 t0)).alloc (.cells cs1 t1)) = W0) : w.heap.size + 1 < W0.heap.size ∧ (∀ i, W0.cell? ⟨w.heap.size + 1, i, none⟩ = cs1[i]?) ∧ (∀ i, W0.frozen? ⟨w.heap.size + 1, i, none⟩ = false) := by
  have h0 : Blk ((w.alloc (.cells cs0 t0)).alloc (.cells cs1 t1)) (w.heap.size + 1) t1 cs1 := by have := Blk.new (w.alloc (.cells cs0 t0)) t1 cs1; simpa using this
  have hb : Blk W0 (w.heap.size + 1) t1 cs1 := by subst h; exact h0
  exact ⟨hb.lt, hb.cell, hb.frozen⟩
theorem al3 {w W0 : World} {cs0 cs1 cs2 : Array Value} {t0 t1 t2 : TypeId} (h : (((w.alloc (.cells cs0 t0)).alloc (.cells cs1 t1)).alloc (.cells cs2 t2)) = W0) : Below w.heap.size w W0 ∧ W0.heap.size = w.heap.size + 3 := by
  subst h
  exact ⟨(((Below.refl _ _).alloc (Nat.le_refl _) _).alloc (by simp; try omega) _).alloc (by simp; try omega) _, by simp⟩
theorem al3_0 {w W0 : World} {cs0 cs1 cs2 : Array Value} {t0 t1 t2 : TypeId} (h : (((w.alloc (.cells cs0 t0)).alloc (.cells cs1 t1)).alloc (.cells cs2 t2)) = W0) : w.heap.size < W0.heap.size ∧ (∀ i, W0.cell? ⟨w.heap.size, i, none⟩ = cs0[i]?) ∧ (∀ i, W0.frozen? ⟨w.heap.size, i, none⟩ = false) := by
  have h0 : Blk (w.alloc (.cells cs0 t0)) (w.heap.size) t0 cs0 := by have := Blk.new w t0 cs0; simpa using this
  have hb : Blk W0 (w.heap.size) t0 cs0 := by subst h; exact ((h0).alloc (.cells cs1 t1)).alloc (.cells cs2 t2)
  exact ⟨hb.lt, hb.cell, hb.frozen⟩
theorem al3_1 {w W0 : World} {cs0 cs1 cs2 : Array Value} {t0 t1 t2 : TypeId} (h : (((w.alloc (.cells cs0 t0)).alloc (.cells cs1 t1)).alloc (.cells cs2 t2)) = W0) : w.heap.size + 1 < W0.heap.size ∧ (∀ i, W0.cell? ⟨w.heap.size + 1, i, none⟩ = cs1[i]?) ∧ (∀ i, W0.frozen? ⟨w.heap.size + 1, i, none⟩ = false) := by
  have h0 : Blk ((w.alloc (.cells cs0 t0)).alloc (.cells cs1 t1)) (w.heap.size + 1) t1 cs1 := by have := Blk.new (w.alloc (.cells cs0 t0)) t1 cs1; simpa using this
  have hb : Blk W0 (w.heap.size + 1) t1 cs1 := by subst h; exact (h0).alloc (.cells cs2 t2)
  exact ⟨hb.lt, hb.cell, hb.frozen⟩
theorem al3_2 {w W0 : World} {cs0 cs1 cs2 : Array Value} {t0 t1 t2 : TypeId} (h : (((w.alloc (.cells cs0 t0)).alloc (.cells cs1 t1)).alloc (.cells cs2 t2)) = W0) : w.heap.size + 1 + 1 < W0.heap.size ∧ (∀ i, W0.cell? ⟨w.heap.size + 1 + 1, i, none⟩ = cs2[i]?) ∧ (∀ i, W0.frozen? ⟨w.heap.size + 1 + 1, i, none⟩ = false) := by
  have h0 : Blk (((w.alloc (.cells cs0 t0)).alloc (.cells cs1 t1)).alloc (.cells cs2 t2)) (w.heap.size + 1 + 1) t2 cs2 := by have := Blk.new ((w.alloc (.cells cs0 t0)).alloc (.cells cs1 t1)) t2 cs2; simpa using this
  have hb : Blk W0 (w.heap.size + 1 + 1) t2 cs2 := by subst h; exact h0
  exact ⟨hb.lt, hb.cell, hb.frozen⟩
theorem al4 {w W0 : World} {cs0 cs1 cs2 cs3 : Array Value} {t0 t1 t2 t3 : TypeId} (h : ((((w.alloc (.cells cs0 t0)).alloc (.cells cs1 t1)).alloc (.cells cs2 t2)).alloc (.cells cs3 t3)) = W0) : Below w.heap.size w W0 ∧ W0.heap.size = w.heap.size + 4 := by
  subst h
  exact ⟨((((Below.refl _ _).alloc (Nat.le_refl _) _).alloc (by simp; try omega) _).alloc (by simp; try omega) _).alloc (by simp; try omega) _, by simp⟩
theorem al4_0 {w W0 : World} {cs0 cs1 cs2 cs3 : Array Value} {t0 t1 t2 t3 : TypeId} (h : ((((w.alloc (.cells cs0 t0)).alloc (.cells cs1 t1)).alloc (.cells cs2 t2)).alloc (.cells cs3 t3)) = W0) : w.heap.size < W0.heap.size ∧ (∀ i, W0.cell? ⟨w.heap.size, i, none⟩ = cs0[i]?) ∧ (∀ i, W0.frozen? ⟨w.heap.size, i, none⟩ = false) := by
  have h0 : Blk (w.alloc (.cells cs0 t0)) (w.heap.size) t0 cs0 := by have := Blk.new w t0 cs0; simpa using this
  have hb : Blk W0 (w.heap.size) t0 cs0 := by subst h; exact (((h0).alloc (.cells cs1 t1)).alloc (.cells cs2 t2)).alloc (.cells cs3 t3)
  exact ⟨hb.lt, hb.cell, hb.frozen⟩
theorem al4_1 {w W0 : World} {cs0 cs1 cs2 cs3 : Array Value} {t0 t1 t2 t3 : TypeId} (h : ((((w.alloc (.cells cs0 t0)).alloc (.cells cs1 t1)).alloc (.cells cs2 t2)).alloc (.cells cs3 t3)) = W0) : w.heap.size + 1 < W0.heap.size ∧ (∀ i, W0.cell? ⟨w.heap.size + 1, i, none⟩ = cs1[i]?) ∧ (∀ i, W0.frozen? ⟨w.heap.size + 1, i, none⟩ = false) := by
  have h0 : Blk ((w.alloc (.cells cs0 t0)).alloc (.cells cs1 t1)) (w.heap.size + 1) t1 cs1 := by have := Blk.new (w.alloc (.cells cs0 t0)) t1 cs1; simpa using this
  have hb : Blk W0 (w.heap.size + 1) t1 cs1 := by subst h; exact ((h0).alloc (.cells cs2 t2)).alloc (.cells cs3 t3)
  exact ⟨hb.lt, hb.cell, hb.frozen⟩
theorem al4_2 {w W0 : World} {cs0 cs1 cs2 cs3 : Array Value} {t0 t1 t2 t3 : TypeId} (h : ((((w.alloc (.cells cs0 t0)).alloc (.cells cs1 t1)).alloc (.cells cs2 t2)).alloc (.cells cs3 t3)) = W0) : w.heap.size + 1 + 1 < W0.heap.size ∧ (∀ i, W0.cell? ⟨w.heap.size + 1 + 1, i, none⟩ = cs2[i]?) ∧ (∀ i, W0.frozen? ⟨w.heap.size + 1 + 1, i, none⟩ = false) := by
  have h0 : Blk (((w.alloc (.cells cs0 t0)).alloc (.cells cs1 t1)).alloc (.cells cs2 t2)) (w.heap.size + 1 + 1) t2 cs2 := by have := Blk.new ((w.alloc (.cells cs0 t0)).alloc (.cells cs1 t1)) t2 cs2; simpa using this
  have hb : Blk W0 (w.heap.size + 1 + 1) t2 cs2 := by subst h; exact (h0).alloc (.cells cs3 t3)
  exact ⟨hb.lt, hb.cell, hb.frozen⟩
theorem al4_3 {w W0 : World} {cs0 cs1 cs2 cs3 : Array Value} {t0 t1 t2 t3 : TypeId} (h : ((((w.alloc (.cells cs0 t0)).alloc (.cells cs1 t1)).alloc (.cells cs2 t2)).alloc (.cells cs3 t3)) = W0) : w.heap.size + 1 + 1 + 1 < W0.heap.size ∧ (∀ i, W0.cell? ⟨w.heap.size + 1 + 1 + 1, i, none⟩ = cs3[i]?) ∧ (∀ i, W0.frozen? ⟨w.heap.size + 1 + 1 + 1, i, none⟩ = false) := by
  have h0 : Blk ((((w.alloc (.cells cs0 t0)).alloc (.cells cs1 t1)).alloc (.cells cs2 t2)).alloc (.cells cs3 t3)) (w.heap.size + 1 + 1 + 1) t3 cs3 := by have := Blk.new (((w.alloc (.cells cs0 t0)).alloc (.cells cs1 t1)).alloc (.cells cs2 t2)) t3 cs3; simpa using this
  have hb : Blk W0 (w.heap.size + 1 + 1 + 1) t3 cs3 := by subst h; exact h0
  exact ⟨hb.lt, hb.cell, hb.frozen⟩
theorem al5 {w W0 : World} {cs0 cs1 cs2 cs3 cs4 : Array Value} {t0 t1 t2 t3 t4 : TypeId} (h : (((((w.alloc (.cells cs0 t0)).alloc (.cells cs1 t1)).alloc (.cells cs2 t2)).alloc (.cells cs3 t3)).alloc (.cells cs4 t4)) = W0) : Below w.heap.size w W0 ∧ W0.heap.size = w.heap.size + 5 := by
  subst h
  exact ⟨(((((Below.refl _ _).alloc (Nat.le_refl _) _).alloc (by simp; try omega) _).alloc (by simp; try omega) _).alloc (by simp; try omega) _).alloc (by simp; try omega) _, by simp⟩
theorem al5_0 {w W0 : World} {cs0 cs1 cs2 cs3 cs4 : Array Value} {t0 t1 t2 t3 t4 : TypeId} (h : (((((w.alloc (.cells cs0 t0)).alloc (.cells cs1 t1)).alloc (.cells cs2 t2)).alloc (.cells cs3 t3)).alloc (.cells cs4 t4)) = W0) : w.heap.size < W0.heap.size ∧ (∀ i, W0.cell? ⟨w.heap.size, i, none⟩ = cs0[i]?) ∧ (∀ i, W0.frozen? ⟨w.heap.size, i, none⟩ = false) := by
  have h0 : Blk (w.alloc (.cells cs0 t0)) (w.heap.size) t0 cs0 := by have := Blk.new w t0 cs0; simpa using this
  have hb : Blk W0 (w.heap.size) t0 cs0 := by subst h; exact ((((h0).alloc (.cells cs1 t1)).alloc (.cells cs2 t2)).alloc (.cells cs3 t3)).alloc (.cells cs4 t4)
  exact ⟨hb.lt, hb.cell, hb.frozen⟩
theorem al5_1 {w W0 : World} {cs0 cs1 cs2 cs3 cs4 : Array Value} {t0 t1 t2 t3 t4 : TypeId} (h : (((((w.alloc (.cells cs0 t0)).alloc (.cells cs1 t1)).alloc (.cells cs2 t2)).alloc (.cells cs3 t3)).alloc (.cells cs4 t4)) = W0) : w.heap.size + 1 < W0.heap.size ∧ (∀ i, W0.cell? ⟨w.heap.size + 1, i, none⟩ = cs1[i]?) ∧ (∀ i, W0.frozen? ⟨w.heap.size + 1, i, none⟩ = false) := by
  have h0 : Blk ((w.alloc (.cells cs0 t0)).alloc (.cells cs1 t1)) (w.heap.size + 1) t1 cs1 := by have := Blk.new (w.alloc (.cells cs0 t0)) t1 cs1; simpa using this
  have hb : Blk W0 (w.heap.size + 1) t1 cs1 := by subst h; exact (((h0).alloc (.cells cs2 t2)).alloc (.cells cs3 t3)).alloc (.cells cs4 t4)
  exact ⟨hb.lt, hb.cell, hb.frozen⟩
theorem al5_2 {w W0 : World} {cs0 cs1 cs2 cs3 cs4 : Array Value} {t0 t1 t2 t3 t4 : TypeId} (h : (((((w.alloc (.cells cs0 t0)).alloc (.cells cs1 t1)).alloc (.cells cs2 t2)).alloc (.cells cs3 t3)).alloc (.cells cs4 t4)) = W0) : w.heap.size + 1 + 1 < W0.heap.size ∧ (∀ i, W0.cell? ⟨w.heap.size + 1 + 1, i, none⟩ = cs2[i]?) ∧ (∀ i, W0.frozen? ⟨w.heap.size + 1 + 1, i, none⟩ = false) := by
  have h0 : Blk (((w.alloc (.cells cs0 t0)).alloc (.cells cs1 t1)).alloc (.cells cs2 t2)) (w.heap.size + 1 + 1) t2 cs2 := by have := Blk.new ((w.alloc (.cells cs0 t0)).alloc (.cells cs1 t1)) t2 cs2; simpa using this
  have hb : Blk W0 (w.heap.size + 1 + 1) t2 cs2 := by subst h; exact ((h0).alloc (.cells cs3 t3)).alloc (.cells cs4 t4)
  exact ⟨hb.lt, hb.cell, hb.frozen⟩
theorem al5_3 {w W0 : World} {cs0 cs1 cs2 cs3 cs4 : Array Value} {t0 t1 t2 t3 t4 : TypeId} (h : (((((w.alloc (.cells cs0 t0)).alloc (.cells cs1 t1)).alloc (.cells cs2 t2)).alloc (.cells cs3 t3)).alloc (.cells cs4 t4)) = W0) : w.heap.size + 1 + 1 + 1 < W0.heap.size ∧ (∀ i, W0.cell? ⟨w.heap.size + 1 + 1 + 1, i, none⟩ = cs3[i]?) ∧ (∀ i, W0.frozen? ⟨w.heap.size + 1 + 1 + 1, i, none⟩ = false) := by
  have h0 : Blk ((((w.alloc (.cells cs0 t0)).alloc (.cells cs1 t1)).alloc (.cells cs2 t2)).alloc (.cells cs3 t3)) (w.heap.size + 1 + 1 + 1) t3 cs3 := by have := Blk.new (((w.alloc (.cells cs0 t0)).alloc (.cells cs1 t1)).alloc (.cells cs2 t2)) t3 cs3; simpa using this
  have hb : Blk W0 (w.heap.size + 1 + 1 + 1) t3 cs3 := by subst h; exact (h0).alloc (.cells cs4 t4)
  exact ⟨hb.lt, hb.cell, hb.frozen⟩
theorem al5_4 {w W0 : World} {cs0 cs1 cs2 cs3 cs4 : Array Value} {t0 t1 t2 t3 t4 : TypeId} (h : (((((w.alloc (.cells cs0 t0)).alloc (.cells cs1 t1)).alloc (.cells cs2 t2)).alloc (.cells cs3 t3)).alloc (.cells cs4 t4)) = W0) : w.heap.size + 1 + 1 + 1 + 1 < W0.heap.size ∧ (∀ i, W0.cell? ⟨w.heap.size + 1 + 1 + 1 + 1, i, none⟩ = cs4[i]?) ∧ (∀ i, W0.frozen? ⟨w.heap.size + 1 + 1 + 1 + 1, i, none⟩ = false) := by
  have h0 : Blk (((((w.alloc (.cells cs0 t0)).alloc (.cells cs1 t1)).alloc (.cells cs2 t2)).alloc (.cells cs3 t3)).alloc (.cells cs4 t4)) (w.heap.size + 1 + 1 + 1 + 1) t4 cs4 := by have := Blk.new ((((w.alloc (.cells cs0 t0)).alloc (.cells cs1 t1)).alloc (.cells cs2 t2)).alloc (.cells cs3 t3)) t4 cs4; simpa using this
  have hb : Blk W0 (w.heap.size + 1 + 1 + 1 + 1) t4 cs4 := by subst h; exact h0
  exact ⟨hb.lt, hb.cell, hb.frozen⟩
theorem al6 {w W0 : World} {cs0 cs1 cs2 cs3 cs4 cs5 : Array Value} {t0 t1 t2 t3 t4 t5 : TypeId} (h : ((((((w.alloc (.cells cs0 t0)).alloc (.cells cs1 t1)).alloc (.cells cs2 t2)).alloc (.cells cs3 t3)).alloc (.cells cs4 t4)).alloc (.cells cs5 t5)) = W0) : Below w.heap.size w W0 ∧ W0.heap.size = w.heap.size + 6 := by
  subst h
  exact ⟨((((((Below.refl _ _).alloc (Nat.le_refl _) _).alloc (by simp; try omega) _).alloc (by simp; try omega) _).alloc (by simp; try omega) _).alloc (by simp; try omega) _).alloc (by simp; try omega) _, by simp⟩
theorem al6_0 {w W0 : World} {cs0 cs1 cs2 cs3 cs4 cs5 : Array Value} {t0 t1 t2 t3 t4 t5 : TypeId} (h : ((((((w.alloc (.cells cs0 t0)).alloc (.cells cs1 t1)).alloc (.cells cs2 t2)).alloc (.cells cs3 t3)).alloc (.cells cs4 t4)).alloc (.cells cs5 t5)) = W0) : w.heap.size < W0.heap.size ∧ (∀ i, W0.cell? ⟨w.heap.size, i, none⟩ = cs0[i]?) ∧ (∀ i, W0.frozen? ⟨w.heap.size, i, none⟩ = false) := by
  have h0 : Blk (w.alloc (.cells cs0 t0)) (w.heap.size) t0 cs0 := by have := Blk.new w t0 cs0; simpa using this
  have hb : Blk W0 (w.heap.size) t0 cs0 := by subst h; exact (((((h0).alloc (.cells cs1 t1)).alloc (.cells cs2 t2)).alloc (.cells cs3 t3)).alloc (.cells cs4 t4)).alloc (.cells cs5 t5)
  exact ⟨hb.lt, hb.cell, hb.frozen⟩
theorem al6_1 {w W0 : World} {cs0 cs1 cs2 cs3 cs4 cs5 : Array Value} {t0 t1 t2 t3 t4 t5 : TypeId} (h : ((((((w.alloc (.cells cs0 t0)).alloc (.cells cs1 t1)).alloc (.cells cs2 t2)).alloc (.cells cs3 t3)).alloc (.cells cs4 t4)).alloc (.cells cs5 t5)) = W0) : w.heap.size + 1 < W0.heap.size ∧ (∀ i, W0.cell? ⟨w.heap.size + 1, i, none⟩ = cs1[i]?) ∧ (∀ i, W0.frozen? ⟨w.heap.size + 1, i, none⟩ = false) := by
  have h0 : Blk ((w.alloc (.cells cs0 t0)).alloc (.cells cs1 t1)) (w.heap.size + 1) t1 cs1 := by have := Blk.new (w.alloc (.cells cs0 t0)) t1 cs1; simpa using this
  have hb : Blk W0 (w.heap.size + 1) t1 cs1 := by subst h; exact ((((h0).alloc (.cells cs2 t2)).alloc (.cells cs3 t3)).alloc (.cells cs4 t4)).alloc (.cells cs5 t5)
  exact ⟨hb.lt, hb.cell, hb.frozen⟩
theorem al6_2 {w W0 : World} {cs0 cs1 cs2 cs3 cs4 cs5 : Array Value} {t0 t1 t2 t3 t4 t5 : TypeId} (h : ((((((w.alloc (.cells cs0 t0)).alloc (.cells cs1 t1)).alloc (.cells cs2 t2)).alloc (.cells cs3 t3)).alloc (.cells cs4 t4)).alloc (.cells cs5 t5)) = W0) : w.heap.size + 1 + 1 < W0.heap.size ∧ (∀ i, W0.cell? ⟨w.heap.size + 1 + 1, i, none⟩ = cs2[i]?) ∧ (∀ i, W0.frozen? ⟨w.heap.size + 1 + 1, i, none⟩ = false) := by
  have h0 : Blk (((w.alloc (.cells cs0 t0)).alloc (.cells cs1 t1)).alloc (.cells cs2 t2)) (w.heap.size + 1 + 1) t2 cs2 := by have := Blk.new ((w.alloc (.cells cs0 t0)).alloc (.cells cs1 t1)) t2 cs2; simpa using this
  have hb : Blk W0 (w.heap.size + 1 + 1) t2 cs2 := by subst h; exact (((h0).alloc (.cells cs3 t3)).alloc (.cells cs4 t4)).alloc (.cells cs5 t5)
  exact ⟨hb.lt, hb.cell, hb.frozen⟩
theorem al6_3 {w W0 : World} {cs0 cs1 cs2 cs3 cs4 cs5 : Array Value} {t0 t1 t2 t3 t4 t5 : TypeId} (h : ((((((w.alloc (.cells cs0 t0)).alloc (.cells cs1 t1)).alloc (.cells cs2 t2)).alloc (.cells cs3 t3)).alloc (.cells cs4 t4)).alloc (.cells cs5 t5)) = W0) : w.heap.size + 1 + 1 + 1 < W0.heap.size ∧ (∀ i, W0.cell? ⟨w.heap.size + 1 + 1 + 1, i, none⟩ = cs3[i]?) ∧ (∀ i, W0.frozen? ⟨w.heap.size + 1 + 1 + 1, i, none⟩ = false) := by
  have h0 : Blk ((((w.alloc (.cells cs0 t0)).alloc (.cells cs1 t1)).alloc (.cells cs2 t2)).alloc (.cells cs3 t3)) (w.heap.size + 1 + 1 + 1) t3 cs3 := by have := Blk.new (((w.alloc (.cells cs0 t0)).alloc (.cells cs1 t1)).alloc (.cells cs2 t2)) t3 cs3; simpa using this
  have hb : Blk W0 (w.heap.size + 1 + 1 + 1) t3 cs3 := by subst h; exact ((h0).alloc (.cells cs4 t4)).alloc (.cells cs5 t5)
  exact ⟨hb.lt, hb.cell, hb.frozen⟩
theorem al6_4 {w W0 : World} {cs0 cs1 cs2 cs3 cs4 cs5 : Array Value} {t0 t1 t2 t3 t4 t5 : TypeId} (h : ((((((w.alloc (.cells cs0 t0)).alloc (.cells cs1 t1)).alloc (.cells cs2 t2)).alloc (.cells cs3 t3)).alloc (.cells cs4 t4)).alloc (.cells cs5 t5)) = W0) : w.heap.size + 1 + 1 + 1 + 1 < W0.heap.size ∧ (∀ i, W0.cell? ⟨w.heap.size + 1 + 1 + 1 + 1, i, none⟩ = cs4[i]?) ∧ (∀ i, W0.frozen? ⟨w.heap.size + 1 + 1 + 1 + 1, i, none⟩ = false) := by
  have h0 : Blk (((((w.alloc (.cells cs0 t0)).alloc (.cells cs1 t1)).alloc (.cells cs2 t2)).alloc (.cells cs3 t3)).alloc (.cells cs4 t4)) (w.heap.size + 1 + 1 + 1 + 1) t4 cs4 := by have := Blk.new ((((w.alloc (.cells cs0 t0)).alloc (.cells cs1 t1)).alloc (.cells cs2 t2)).alloc (.cells cs3 t3)) t4 cs4; simpa using this
  have hb : Blk W0 (w.heap.size + 1 + 1 + 1 + 1) t4 cs4 := by subst h; exact (h0).alloc (.cells cs5 t5)
  exact ⟨hb.lt, hb.cell, hb.frozen⟩
theorem al6_5 {w W0 : World} {cs0 cs1 cs2 cs3 cs4 cs5 : Array Value} {t0 t1 t2 t3 t4 t5 : TypeId} (h : ((((((w.alloc (.cells cs0 t0)).alloc (.cells cs1 t1)).alloc (.cells cs2 t2)).alloc (.cells cs3 t3)).alloc (.cells cs4 t4)).alloc (.cells cs5 t5)) = W0) : w.heap.size + 1 + 1 + 1 + 1 + 1 < W0.heap.size ∧ (∀ i, W0.cell? ⟨w.heap.size + 1 + 1 + 1 + 1 + 1, i, none⟩ = cs5[i]?) ∧ (∀ i, W0.frozen? ⟨w.heap.size + 1 + 1 + 1 + 1 + 1, i, none⟩ = false) := by
  have h0 : Blk ((((((w.alloc (.cells cs0 t0)).alloc (.cells cs1 t1)).alloc (.cells cs2 t2)).alloc (.cells cs3 t3)).alloc (.cells cs4 t4)).alloc (.cells cs5 t5)) (w.heap.size + 1 + 1 + 1 + 1 + 1) t5 cs5 := by have := Blk.new (((((w.alloc (.cells cs0 t0)).alloc (.cells cs1 t1)).alloc (.cells cs2 t2)).alloc (.cells cs3 t3)).alloc (.cells cs4 t4)) t5 cs5; simpa using this
  have hb : Blk W0 (w.heap.size + 1 + 1 + 1 + 1 + 1) t5 cs5 := by subst h; exact h0
  exact ⟨hb.lt, hb.cell, hb.frozen⟩

theorem quiet_left {P : Program} {f : FuncId} {args : Array Value} {w : World} {n : Nat} {v : Value}
    (h : Calls P f args (w.drewN n) fun e w' => e = .returned v ∧ w.drewN n = w') : Calls P f args (w.drewN n) fun e w'' => e = .returned v ∧ ∃ m, w'' = w.drewN m :=
  h.mono fun _ _ ⟨he, hm⟩ => ⟨he, n, hm.symm⟩
theorem regrown_left {P : Program} {f : FuncId} {args : Array Value} {w : World} {p : Regrown} {v : Value}
    (h : Calls P f args (grow (redrawn w p.d) p.os) fun e w' => e = .returned v ∧ grow (redrawn w p.d) p.os = w') : Calls P f args (grow (redrawn w p.d) p.os) fun e w'' => e = .returned v ∧ ∃ p : Regrown, w'' = grow (redrawn w p.d) p.os :=
  h.mono fun _ _ ⟨he, hm⟩ => ⟨he, p, hm.symm⟩

/-- all of the first n -/
def allN (n : Nat) (p : Nat → Bool) : Bool := (List.range n).all p
theorem allN_iff {n : Nat} {p : Nat → Bool} : allN n p = true ↔ ∀ k, k < n → p k = true := by simp [allN]
theorem allN_no {n : Nat} {p : Nat → Bool} {k : Nat} (hk : k < n) (h : p k = false) : allN n p = false := by
  cases e : allN n p with
  | false => rfl
  | true => rw [allN_iff.1 e k hk] at h; cases h

/-- one of the first n; the first of them, or -1 -/
def anyN (n : Nat) (p : Nat → Bool) : Bool := !allN n fun k => !p k
theorem anyN_yes {n : Nat} {p : Nat → Bool} {k : Nat} (hk : k < n) (h : p k = true) : anyN n p = true := by
  simp only [anyN, allN_no (n := n) (p := fun k => !p k) hk (by simp [h]), Bool.not_false]
theorem anyN_no {n : Nat} {p : Nat → Bool} (h : ∀ k, k < n → p k = false) : anyN n p = false := by
  have : allN n (fun k => !p k) = true := allN_iff.2 fun k hk => by simp [h k hk]
  simp [anyN, this]
def idxN (n : Nat) (p : Nat → Bool) : Int := match (List.range n).find? p with | some k => k | none => -1
theorem idxN_none {n : Nat} {p : Nat → Bool} (h : ∀ k, k < n → p k = false) : idxN n p = -1 := by
  have : (List.range n).find? p = none := by simpa using h
  simp [idxN, this]
theorem idxN_some {n : Nat} {p : Nat → Bool} {k : Nat} (hk : k < n) (h : p k = true) (hl : ∀ j, j < k → p j = false) : idxN n p = k := by
  have : (List.range n).find? p = some k := by
    rw [List.find?_eq_some_iff_append]
    refine ⟨h, List.range k, (List.range (n - k - 1)).map (· + (k + 1)), ?_, by simpa using hl⟩
    have e : n = k + 1 + (n - k - 1) := by omega
    conv => lhs; rw [e, List.range_add, List.range_succ]
    simp [Nat.add_comm, Nat.add_left_comm]
  simp [idxN, this]
theorem idxN_ge {n : Nat} {p : Nat → Bool} : decide (0 ≤ idxN n p) = anyN n p := by
  by_cases h : ∀ k, k < n → p k = false
  · rw [idxN_none h, anyN_no h]; rfl
  · have h' : ∃ k, k < n ∧ p k = true := by
      refine Classical.byContradiction fun hc => h fun k hk => ?_
      cases e : p k with
      | false => rfl
      | true => exact absurd ⟨k, hk, e⟩ hc
    obtain ⟨k, hk, hp⟩ := h'
    rw [anyN_yes hk hp]
    unfold idxN
    cases e : (List.range n).find? p with
    | none => rw [List.find?_eq_none] at e; exact absurd hp (e k (by simpa using hk))
    | some j => simp
theorem dec_lt (a b : Int) : decide (a < b) = !decide (b ≤ a) := by
  by_cases h : a < b
  · rw [decide_eq_true h, decide_eq_false (by omega)]; rfl
  · rw [decide_eq_false h, decide_eq_true (by omega)]; rfl
theorem anyN_not {n : Nat} {p : Nat → Bool} : (anyN n fun k => !p k) = !allN n p := by simp [anyN]

end Go.Proofs.YtcbeiadimchknaaGreat
