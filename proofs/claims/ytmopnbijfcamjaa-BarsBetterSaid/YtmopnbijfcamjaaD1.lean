/- Bars (layer 1): bars, pieces and sawings in plain Lean, and in memory. -/
import Derived.Test.YtmopnbijfcamjaaSs
namespace Go.Proofs.Ytmopnbijfcamjaa
open Go.RowKit
open Go.Sort (grow)
set_option linter.unusedVariables false

def wi (n a b : Int) : Bool := decide (a ≤ n) && decide (n ≤ b)
theorem wi_true {x a b : Int} : wi x a b = true ↔ a ≤ x ∧ x ≤ b := by simp [wi]
structure Br where
  heat : Int
  long : Int
structure Pc where
  long : Int
  hs : List Int
structure Pm where
  long : Int
  h : Hd
def encB (b : Br) : List Value := [.int .i64 b.heat, .int .i64 b.long]
def encP (m : Pm) : List Value := [.int .i64 m.long, .slice m.h.A m.h.n m.h.c]
theorem encB_len (x : Br) : (encB x).length = 2 := rfl
theorem encP_len (x : Pm) : (encP x).length = 2 := rfl
theorem encB_one (x : Br) : ∀ u ∈ encB x, u.oneCell' = true := by
  intro u hu; simp only [encB, List.mem_cons, List.not_mem_nil, or_false] at hu; rcases hu with rfl | rfl <;> rfl
theorem encP_one (x : Pm) : ∀ u ∈ encP x, u.oneCell' = true := by
  intro u hu; simp only [encP, List.mem_cons, List.not_mem_nil, or_false] at hu; rcases hu with rfl | rfl <;> rfl
def brAt (bs : List Br) (k : Nat) : Br := bs.getD k ⟨0, 0⟩
def pcAt (ps : List Pc) (k : Nat) : Pc := ps.getD k ⟨0, []⟩
def pmAt (ms : List Pm) (k : Nat) : Pm := ms.getD k ⟨0, ⟨none, 0, 0⟩⟩
def BrsAt (w : World) (A : Option Addr) (n : Nat) (bs : List Br) : Prop := SlAt encB 2 ⟨0, 0⟩ w A n bs
/-- pieces in memory, each with its heats -/
structure PcsAt (w : World) (A : Option Addr) (n : Nat) (ms : List Pm) (ps : List Pc) : Prop where
  sl : SlAt encP 2 ⟨0, ⟨none, 0, 0⟩⟩ w A n ms
  pl : ps.length = n
  lg : ∀ k, k < n → (pmAt ms k).long = (pcAt ps k).long
  inn : ∀ k, k < n → IntsAt w (pmAt ms k).h.A (pmAt ms k).h.n (pcAt ps k).hs
section
variable {w w' : World} {A : Option Addr} {n : Nat}
theorem BrsAt.later {bs : List Br} (h : BrsAt w A n bs) (hb : Below w.heap.size w w') : BrsAt w' A n bs := ⟨h.1, h.2.later hb⟩
theorem BrsAt.get {bs : List Br} (h : BrsAt w A n bs) {k : Nat} (hk : k < n) :
    ∃ b off, A = some ⟨b, off, none⟩ ∧ b < w.heap.size ∧ w.cell? ⟨b, off + k * 2, none⟩ = some (.int .i64 (brAt bs k).heat) ∧ w.cell? ⟨b, off + k * 2 + 1, none⟩ = some (.int .i64 (brAt bs k).long) := by
  obtain ⟨b, off, e, hb, hc⟩ := h.2 (by omega)
  exact ⟨b, off, e, hb, hc k hk 0 _ rfl, hc k hk 1 _ rfl⟩
theorem PcsAt.later {ms : List Pm} {ps : List Pc} (h : PcsAt w A n ms ps) (hb : Below w.heap.size w w') : PcsAt w' A n ms ps :=
  ⟨⟨h.sl.1, h.sl.2.later hb⟩, h.pl, h.lg, fun k hk => (h.inn k hk).later hb⟩
theorem PcsAt.get {ms : List Pm} {ps : List Pc} (h : PcsAt w A n ms ps) {k : Nat} (hk : k < n) :
    ∃ b off, A = some ⟨b, off, none⟩ ∧ b < w.heap.size ∧ w.cell? ⟨b, off + k * 2, none⟩ = some (.int .i64 (pcAt ps k).long) ∧
      w.cell? ⟨b, off + k * 2 + 1, none⟩ = some (.slice (pmAt ms k).h.A (pmAt ms k).h.n (pmAt ms k).h.c) ∧ IntsAt w (pmAt ms k).h.A (pmAt ms k).h.n (pcAt ps k).hs := by
  obtain ⟨b, off, e, hb, hc⟩ := h.sl.2 (by omega)
  exact ⟨b, off, e, hb, by rw [← h.lg k hk]; exact hc k hk 0 _ rfl, hc k hk 1 _ rfl, h.inn k hk⟩
theorem PcsAt.len {ms : List Pm} {ps : List Pc} (h : PcsAt w A n ms ps) {k : Nat} (hk : k < n) : (pmAt ms k).h.n = (pcAt ps k).hs.length := (h.inn k hk).1.symm
end
/-- a sawing under way: the bar of each piece so far, the rests, how many pieces each bar has, wrong marks -/
structure Sw where
  of : List Int
  rests : List Int
  cuts : List Int
  wrong : Int
def hasI (l : List Int) (v : Int) : Bool := anyN l.length fun k => iAt l k == v
def wrB (bs : List Br) (ps : List Pc) (piece bar : Nat) : Bool := !hasI (pcAt ps piece).hs (brAt bs bar).heat
def fitS (kerf : Int) (st : Sw) (bar : Nat) (long : Int) : Bool := decide ((bif decide (0 < iAt st.cuts bar) then long + kerf else long) ≤ iAt st.rests bar)
def stS (bs : List Br) (ps : List Pc) (kerf : Int) (st : Sw) (bar : Nat) : Sw :=
  { of := st.of ++ [(bar : Int)]
    rests := st.rests.set bar (iAt st.rests bar - (pcAt ps st.of.length).long - (bif decide (0 < iAt st.cuts bar) then kerf else 0))
    cuts := st.cuts.set bar (iAt st.cuts bar + 1)
    wrong := st.wrong + (bif wrB bs ps st.of.length bar then 1 else 0) }
/-- one bar for the next piece: is it taken? -/
def tkS (bs : List Br) (ps : List Pc) (kerf most : Int) (st : Sw) (bar : Nat) : Bool :=
  fitS kerf st bar (pcAt ps st.of.length).long && decide ((stS bs ps kerf st bar).wrong ≤ most)
/-- all sawings behind one, p pieces more, in the order in which they are found -/
def swL (bs : List Br) (ps : List Pc) (kerf most : Int) (nb : Nat) : Nat → Sw → List Sw
  | 0, st => [st]
  | p + 1, st => (List.range nb).flatMap fun bar => bif tkS bs ps kerf most st bar then swL bs ps kerf most nb p (stS bs ps kerf st bar) else []
/-- those of the first k bars -/
def swK (bs : List Br) (ps : List Pc) (kerf most : Int) (nb p : Nat) (st : Sw) (k : Nat) : List Sw :=
  (List.range k).flatMap fun bar => bif tkS bs ps kerf most st bar then swL bs ps kerf most nb p (stS bs ps kerf st bar) else []
section
variable {bs : List Br} {ps : List Pc} {kerf most : Int} {nb p k : Nat} {st : Sw}
theorem swL_succ : swL bs ps kerf most nb (p + 1) st = swK bs ps kerf most nb p st nb := rfl
theorem swK_no (h : tkS bs ps kerf most st k = false) : swK bs ps kerf most nb p st (k + 1) = swK bs ps kerf most nb p st k := by
  unfold swK; rw [List.range_succ, List.flatMap_append]; simp [h]
theorem swK_yes (h : tkS bs ps kerf most st k = true) : swK bs ps kerf most nb p st (k + 1) = swK bs ps kerf most nb p st k ++ swL bs ps kerf most nb p (stS bs ps kerf st k) := by
  unfold swK; rw [List.range_succ, List.flatMap_append]; simp [h]
theorem swK_pre (hk : k ≤ nb) : swK bs ps kerf most nb p st k <+: swK bs ps kerf most nb p st nb := by
  unfold swK
  obtain ⟨j, rfl⟩ := Nat.exists_eq_add_of_le hk
  rw [List.range_add, List.flatMap_append]
  exact List.prefix_append _ _
end
/-- the first sawing: nothing is cut -/
def sw0 (bs : List Br) : Sw := ⟨[], bs.map (·.long), List.replicate bs.length 0, 0⟩
def swA (bs : List Br) (ps : List Pc) (kerf most : Int) : List Sw := swL bs ps kerf most bs.length ps.length (sw0 bs)
/-- what Check says -/
def ckH (l : List Int) : Bool := allN l.length fun k => wi (iAt l k) 0 9 && !(decide (0 < k) && decide (iAt l k ≤ iAt l (k - 1)))
def ckS (bs : List Br) (ps : List Pc) (kerf wrong : Int) : Bool :=
  (decide (bs.length ≤ 6) && (decide (ps.length ≤ 8) && (wi kerf 0 20 && wi wrong 0 8))) && (allN bs.length (fun k => wi (brAt bs k).heat 0 9 && wi (brAt bs k).long 1 999) && allN ps.length (fun k => wi (pcAt ps k).long 1 999 && ckH (pcAt ps k).hs))

end Go.Proofs.Ytmopnbijfcamjaa
