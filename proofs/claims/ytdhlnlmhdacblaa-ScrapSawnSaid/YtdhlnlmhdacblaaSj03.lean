/- Slices of slices of numbers: read as lists of lists; made by the call itself; Bars (layer 1): bars, pieces and sawings in plain Lean, and in memory. -/
import Derived.Test.YtdhlnlmhdacblaaSj02
namespace Go.Proofs.Ytdhlnlmhdacblaa
open Go.RowKit
open Go.Sort (grow)
set_option linter.unusedVariables false
set_option linter.unusedSimpArgs false

structure Hd where
  A : Option Addr
  n : Nat
  c : Nat
def encH (h : Hd) : List Value := [.slice h.A h.n h.c]
theorem encH_len (h : Hd) : (encH h).length = 1 := rfl
theorem encH_one (x : Hd) : ∀ u ∈ encH x, u.oneCell' = true := by
  intro u hu; simp only [encH, List.mem_cons, List.not_mem_nil, or_false] at hu; subst hu; rfl
def hAt (hs : List Hd) (k : Nat) : Hd := hs.getD k ⟨none, 0, 0⟩
def xAt (xss : List (List Int)) (k : Nat) : List Int := xss.getD k []
theorem hAt_lt {hs : List Hd} {h : Hd} {k : Nat} (hk : k < hs.length) : hAt (hs ++ [h]) k = hAt hs k := by
  unfold hAt; rw [List.getD_eq_getElem?_getD, List.getD_eq_getElem?_getD, List.getElem?_append_left hk]
theorem hAt_eq {hs : List Hd} {h : Hd} : hAt (hs ++ [h]) hs.length = h := by
  unfold hAt; rw [List.getD_eq_getElem?_getD]; simp
theorem xAt_lt {hs : List (List Int)} {h : List Int} {k : Nat} (hk : k < hs.length) : xAt (hs ++ [h]) k = xAt hs k := by
  unfold xAt; rw [List.getD_eq_getElem?_getD, List.getD_eq_getElem?_getD, List.getElem?_append_left hk]
theorem xAt_eq {hs : List (List Int)} {h : List Int} : xAt (hs ++ [h]) hs.length = h := by
  unfold xAt; rw [List.getD_eq_getElem?_getD]; simp
theorem IntsAt.grown {w w' : World} {A : Option Addr} {n : Nat} {xs : List Int} {row : Option Nat} (h : IntsAt w A n xs) (hg : w.grownBy w' row) (hne : ∀ a, A = some a → row ≠ some a.block) : IntsAt w' A n xs := by
  refine ⟨h.1, fun hn => ?_⟩
  obtain ⟨b, off, rfl, hb, hc⟩ := h.2 hn
  exact ⟨b, off, rfl, Nat.lt_of_lt_of_le hb hg.size, fun k hk j u hu => (World.cell?_of_block (hg.block b hb (fun e => hne _ rfl e.symm))).trans (hc k hk j u hu)⟩
/-- a slice of slices reads as a list of lists -/
structure SsAt (w : World) (A : Option Addr) (n : Nat) (hs : List Hd) (xss : List (List Int)) : Prop where
  sl : SlAt encH 1 ⟨none, 0, 0⟩ w A n hs
  xl : xss.length = n
  inn : ∀ k, k < n → IntsAt w (hAt hs k).A (hAt hs k).n (xAt xss k)
  bd : ∀ k, k < n → ∀ a, (hAt hs k).A = some a → a.block < w.heap.size
theorem SsAt.nil (w : World) : SsAt w none 0 [] [] := ⟨⟨rfl, fun h => absurd h (by omega)⟩, rfl, fun k hk => absurd hk (by omega), fun k hk => absurd hk (by omega)⟩
theorem SsAt.later {w w' : World} {A : Option Addr} {n : Nat} {hs : List Hd} {xss : List (List Int)} (h : SsAt w A n hs xss) (hb : Below w.heap.size w w') : SsAt w' A n hs xss :=
  ⟨⟨h.sl.1, h.sl.2.later hb⟩, h.xl, fun k hk => (h.inn k hk).later hb, fun k hk a ha => Nat.lt_of_lt_of_le (h.bd k hk a ha) hb.size⟩
theorem SsAt.get {w : World} {A : Option Addr} {n : Nat} {hs : List Hd} {xss : List (List Int)} (h : SsAt w A n hs xss) {k : Nat} (hk : k < n) :
    ∃ b off, A = some ⟨b, off, none⟩ ∧ b < w.heap.size ∧ w.cell? ⟨b, off + k, none⟩ = some (.slice (hAt hs k).A (hAt hs k).n (hAt hs k).c) ∧ IntsAt w (hAt hs k).A (hAt hs k).n (xAt xss k) := by
  obtain ⟨b, off, e, hb, hc⟩ := h.sl.2 (by omega)
  have h1 := hc k hk 0 _ rfl
  rw [Nat.mul_one] at h1
  exact ⟨b, off, e, hb, h1, h.inn k hk⟩
/-- a slice of slices that the call itself makes -/
structure OwnSs (base : Nat) (e : TypeId) (w : World) (v : Value) (n : Nat) (hs : List Hd) (xss : List (List Int)) : Prop where
  own : w.ownsRow base e 1 v n (hs.flatMap encH)
  hl : hs.length = n
  xl : xss.length = n
  inn : ∀ k, k < n → IntsAt w (hAt hs k).A (hAt hs k).n (xAt xss k) ∧ ∀ a, (hAt hs k).A = some a → v.ownBlock ≠ some a.block ∧ a.block < w.heap.size
section
variable {base : Nat} {e : TypeId} {w w' : World} {v : Value} {n : Nat} {hs : List Hd} {xss : List (List Int)}
theorem OwnSs.nil (w : World) (base : Nat) (e : TypeId) : OwnSs base e w (.slice none 0 0) 0 [] [] :=
  ⟨World.ownsRow_nil w base e 1, rfl, rfl, fun k hk => absurd hk (by omega)⟩
theorem OwnSs.later (h : OwnSs base e w v n hs xss) (hb : Below w.heap.size w w') : OwnSs base e w' v n hs xss :=
  ⟨own_below h.own hb, h.hl, h.xl, fun k hk => ⟨(h.inn k hk).1.later hb, fun a ha => ⟨((h.inn k hk).2 a ha).1, Nat.lt_of_lt_of_le ((h.inn k hk).2 a ha).2 hb.size⟩⟩⟩
theorem OwnSs.ss (h : OwnSs base e w v n hs xss) : ∃ A c, v = .slice A n c ∧ SsAt w A n hs xss := by
  obtain ⟨A, c, rfl, -, hsl⟩ := SlAt.of_own (d := (⟨none, 0, 0⟩ : Hd)) encH_len h.own h.hl
  exact ⟨A, c, rfl, hsl, h.xl, fun k hk => (h.inn k hk).1, fun k hk a ha => ((h.inn k hk).2 a ha).2⟩
theorem OwnSs.push (h : OwnSs base e w v n hs xss) {o : Obj} {v' : Value} {x : Hd} {xs : List Int} (hx : IntsAt w x.A x.n xs) (hne : ∀ a, x.A = some a → v.ownBlock ≠ some a.block ∧ a.block < w.heap.size)
    (ho : w'.ownsRow base e 1 v' (n + 1) ((hs ++ [x]).flatMap encH)) (hg : (w.alloc o).grownBy w' v.ownBlock) (ha : v'.ownBlock = v.ownBlock ∨ v'.ownBlock = some (w.alloc o).heap.size) : OwnSs base e w' v' (n + 1) (hs ++ [x]) (xss ++ [xs]) := by
  have hsz := hg.size
  simp only [World.size_alloc] at hsz
  have one : ∀ (y : Hd) (ys : List Int), IntsAt w y.A y.n ys → (∀ a, y.A = some a → v.ownBlock ≠ some a.block ∧ a.block < w.heap.size) → IntsAt w' y.A y.n ys ∧ ∀ a, y.A = some a → v'.ownBlock ≠ some a.block ∧ a.block < w'.heap.size := by
    intro y ys h1 h2
    refine ⟨IntsAt.grown (h1.later ((Below.refl _ _).alloc (Nat.le_refl _) o)) hg fun a e => (h2 a e).1, fun a e => ⟨?_, by have := (h2 a e).2; omega⟩⟩
    rcases ha with ha | ha
    · rw [ha]; exact (h2 a e).1
    · rw [ha]
      intro e'
      have h3 := (h2 a e).2
      have h4 := Option.some.inj e'
      simp at h4
      omega
  refine ⟨ho, by simp [h.hl], by simp [h.xl], fun k hk => ?_⟩
  rcases Nat.lt_succ_iff_lt_or_eq.1 hk with h' | rfl
  · rw [hAt_lt (by rw [h.hl]; exact h'), xAt_lt (by rw [h.xl]; exact h')]
    exact one _ _ (h.inn k h').1 (h.inn k h').2
  · have e1 := hAt_eq (hs := hs) (h := x)
    have e2 := xAt_eq (hs := xss) (h := xs)
    rw [h.hl] at e1
    rw [h.xl] at e2
    rw [e1, e2]
    exact one _ _ hx hne
/-- where a row of one's own lies -/
theorem own_addr {size : Nat} {A : Option Addr} {c : Nat} {xs : List Value} (h : w.ownsRow base e size (.slice A n c) n xs) : ∀ a, A = some a → base ≤ a.block ∧ a.block < w.heap.size := by
  intro a ha
  subst ha
  rcases h.2 with ⟨h1, h2⟩ | ⟨g, cap, cur, hv, hb, hh, r⟩
  · first | cases h1 | cases h2
  · cases hv
    exact ⟨hb, (Array.getElem?_eq_some_iff.1 hh).1⟩
end

end Go.Proofs.Ytdhlnlmhdacblaa

namespace Go.Proofs.Ytdhlnlmhdacblaa
open Go.RowKit
open Go.Sort (grow)
set_option linter.unusedVariables false
set_option linter.unusedSimpArgs false

def wi (n a b : Int) : Bool := decide (a ≤ n) && decide (n ≤ b)
theorem wi_true {x a b : Int} : wi x a b = true ↔ a ≤ x ∧ x ≤ b := by simp [wi]
structure Br where
  heat : Int
  long : Int
structure Pc where
  long : Int
  hs : List Int
structure Pm where
  long : Int
  h : Hd
def encB (b : Br) : List Value := [.int .i64 b.heat, .int .i64 b.long]
def encP (m : Pm) : List Value := [.int .i64 m.long, .slice m.h.A m.h.n m.h.c]
theorem encB_len (x : Br) : (encB x).length = 2 := rfl
theorem encP_len (x : Pm) : (encP x).length = 2 := rfl
theorem encB_one (x : Br) : ∀ u ∈ encB x, u.oneCell' = true := by
  intro u hu; simp only [encB, List.mem_cons, List.not_mem_nil, or_false] at hu; rcases hu with rfl | rfl <;> rfl
theorem encP_one (x : Pm) : ∀ u ∈ encP x, u.oneCell' = true := by
  intro u hu; simp only [encP, List.mem_cons, List.not_mem_nil, or_false] at hu; rcases hu with rfl | rfl <;> rfl
def brAt (bs : List Br) (k : Nat) : Br := bs.getD k ⟨0, 0⟩
def pcAt (ps : List Pc) (k : Nat) : Pc := ps.getD k ⟨0, []⟩
def pmAt (ms : List Pm) (k : Nat) : Pm := ms.getD k ⟨0, ⟨none, 0, 0⟩⟩
def BrsAt (w : World) (A : Option Addr) (n : Nat) (bs : List Br) : Prop := SlAt encB 2 ⟨0, 0⟩ w A n bs
/-- pieces in memory, each with its heats -/
structure PcsAt (w : World) (A : Option Addr) (n : Nat) (ms : List Pm) (ps : List Pc) : Prop where
  sl : SlAt encP 2 ⟨0, ⟨none, 0, 0⟩⟩ w A n ms
  pl : ps.length = n
  lg : ∀ k, k < n → (pmAt ms k).long = (pcAt ps k).long
  inn : ∀ k, k < n → IntsAt w (pmAt ms k).h.A (pmAt ms k).h.n (pcAt ps k).hs
section
variable {w w' : World} {A : Option Addr} {n : Nat}
theorem BrsAt.later {bs : List Br} (h : BrsAt w A n bs) (hb : Below w.heap.size w w') : BrsAt w' A n bs := ⟨h.1, h.2.later hb⟩
theorem BrsAt.get {bs : List Br} (h : BrsAt w A n bs) {k : Nat} (hk : k < n) :
    ∃ b off, A = some ⟨b, off, none⟩ ∧ b < w.heap.size ∧ w.cell? ⟨b, off + k * 2, none⟩ = some (.int .i64 (brAt bs k).heat) ∧ w.cell? ⟨b, off + k * 2 + 1, none⟩ = some (.int .i64 (brAt bs k).long) := by
  obtain ⟨b, off, e, hb, hc⟩ := h.2 (by omega)
  exact ⟨b, off, e, hb, hc k hk 0 _ rfl, hc k hk 1 _ rfl⟩
theorem PcsAt.later {ms : List Pm} {ps : List Pc} (h : PcsAt w A n ms ps) (hb : Below w.heap.size w w') : PcsAt w' A n ms ps :=
  ⟨⟨h.sl.1, h.sl.2.later hb⟩, h.pl, h.lg, fun k hk => (h.inn k hk).later hb⟩
theorem PcsAt.get {ms : List Pm} {ps : List Pc} (h : PcsAt w A n ms ps) {k : Nat} (hk : k < n) :
    ∃ b off, A = some ⟨b, off, none⟩ ∧ b < w.heap.size ∧ w.cell? ⟨b, off + k * 2, none⟩ = some (.int .i64 (pcAt ps k).long) ∧
      w.cell? ⟨b, off + k * 2 + 1, none⟩ = some (.slice (pmAt ms k).h.A (pmAt ms k).h.n (pmAt ms k).h.c) ∧ IntsAt w (pmAt ms k).h.A (pmAt ms k).h.n (pcAt ps k).hs := by
  obtain ⟨b, off, e, hb, hc⟩ := h.sl.2 (by omega)
  exact ⟨b, off, e, hb, by rw [← h.lg k hk]; exact hc k hk 0 _ rfl, hc k hk 1 _ rfl, h.inn k hk⟩
theorem PcsAt.len {ms : List Pm} {ps : List Pc} (h : PcsAt w A n ms ps) {k : Nat} (hk : k < n) : (pmAt ms k).h.n = (pcAt ps k).hs.length := (h.inn k hk).1.symm
end
/-- a sawing under way: the bar of each piece so far, the rests, how many pieces each bar has, wrong marks -/
structure Sw where
  of : List Int
  rests : List Int
  cuts : List Int
  wrong : Int
def hasI (l : List Int) (v : Int) : Bool := anyN l.length fun k => iAt l k == v
def wrB (bs : List Br) (ps : List Pc) (piece bar : Nat) : Bool := !hasI (pcAt ps piece).hs (brAt bs bar).heat
def fitS (kerf : Int) (st : Sw) (bar : Nat) (long : Int) : Bool := decide ((bif decide (0 < iAt st.cuts bar) then long + kerf else long) ≤ iAt st.rests bar)
def stS (bs : List Br) (ps : List Pc) (kerf : Int) (st : Sw) (bar : Nat) : Sw :=
  { of := st.of ++ [(bar : Int)]
    rests := st.rests.set bar (iAt st.rests bar - (pcAt ps st.of.length).long - (bif decide (0 < iAt st.cuts bar) then kerf else 0))
    cuts := st.cuts.set bar (iAt st.cuts bar + 1)
    wrong := st.wrong + (bif wrB bs ps st.of.length bar then 1 else 0) }
/-- one bar for the next piece: is it taken? -/
def tkS (bs : List Br) (ps : List Pc) (kerf most : Int) (st : Sw) (bar : Nat) : Bool :=
  fitS kerf st bar (pcAt ps st.of.length).long && decide ((stS bs ps kerf st bar).wrong ≤ most)
/-- all sawings behind one, p pieces more, in the order in which they are found -/
def swL (bs : List Br) (ps : List Pc) (kerf most : Int) (nb : Nat) : Nat → Sw → List Sw
  | 0, st => [st]
  | p + 1, st => (List.range nb).flatMap fun bar => bif tkS bs ps kerf most st bar then swL bs ps kerf most nb p (stS bs ps kerf st bar) else []
/-- those of the first k bars -/
def swK (bs : List Br) (ps : List Pc) (kerf most : Int) (nb p : Nat) (st : Sw) (k : Nat) : List Sw :=
  (List.range k).flatMap fun bar => bif tkS bs ps kerf most st bar then swL bs ps kerf most nb p (stS bs ps kerf st bar) else []
section
variable {bs : List Br} {ps : List Pc} {kerf most : Int} {nb p k : Nat} {st : Sw}
theorem swL_succ : swL bs ps kerf most nb (p + 1) st = swK bs ps kerf most nb p st nb := rfl
theorem swK_no (h : tkS bs ps kerf most st k = false) : swK bs ps kerf most nb p st (k + 1) = swK bs ps kerf most nb p st k := by
  unfold swK; rw [List.range_succ, List.flatMap_append]; simp [h]
theorem swK_yes (h : tkS bs ps kerf most st k = true) : swK bs ps kerf most nb p st (k + 1) = swK bs ps kerf most nb p st k ++ swL bs ps kerf most nb p (stS bs ps kerf st k) := by
  unfold swK; rw [List.range_succ, List.flatMap_append]; simp [h]
theorem swK_pre (hk : k ≤ nb) : swK bs ps kerf most nb p st k <+: swK bs ps kerf most nb p st nb := by
  unfold swK
  obtain ⟨j, rfl⟩ := Nat.exists_eq_add_of_le hk
  rw [List.range_add, List.flatMap_append]
  exact List.prefix_append _ _
end
/-- the first sawing: nothing is cut -/
def sw0 (bs : List Br) : Sw := ⟨[], bs.map (·.long), List.replicate bs.length 0, 0⟩
def swA (bs : List Br) (ps : List Pc) (kerf most : Int) : List Sw := swL bs ps kerf most bs.length ps.length (sw0 bs)
/-- what Check says -/
def ckH (l : List Int) : Bool := allN l.length fun k => wi (iAt l k) 0 9 && !(decide (0 < k) && decide (iAt l k ≤ iAt l (k - 1)))
def ckS (bs : List Br) (ps : List Pc) (kerf wrong : Int) : Bool :=
  (decide (bs.length ≤ 6) && (decide (ps.length ≤ 8) && (wi kerf 0 20 && wi wrong 0 8))) && (allN bs.length (fun k => wi (brAt bs k).heat 0 9 && wi (brAt bs k).long 1 999) && allN ps.length (fun k => wi (pcAt ps k).long 1 999 && ckH (pcAt ps k).hs))

end Go.Proofs.Ytdhlnlmhdacblaa
