/- Slices of slices of numbers: read as lists of lists; made by the call itself; Bars (layer 1): bars, pieces and sawings in plain Lean, and in memory; append onto a slice that has no room: a new row; what was there stays as it was; In and SameInts of the specification of layer 1; The small functions of bars (layer 1). -/
import Derived.Test.YtdhlnlmhdacblaaTs02
import Derived.Test.YtdhlnlmhdacblaaChecked
import Derived.Test.YtdhlnlmhdacblaaTs01
import Derived.Shelf.Abstract
import Derived.Laws.EntriesVeiled
namespace Go.Proofs.Ytdhlnlmhdacblaa
open Go.RowKit
open Go.Sort (grow)
set_option linter.unusedVariables false
set_option linter.unusedSimpArgs false

structure Hd where
  A : Option Addr
  n : Nat
  c : Nat
def encH (h : Hd) : List Value := [.slice h.A h.n h.c]
theorem encH_len (h : Hd) : (encH h).length = 1 := rfl
theorem encH_one (x : Hd) : ∀ u ∈ encH x, u.oneCell' = true := by
  intro u hu; simp only [encH, List.mem_cons, List.not_mem_nil, or_false] at hu; subst hu; rfl
def hAt (hs : List Hd) (k : Nat) : Hd := hs.getD k ⟨none, 0, 0⟩
def xAt (xss : List (List Int)) (k : Nat) : List Int := xss.getD k []
theorem hAt_lt {hs : List Hd} {h : Hd} {k : Nat} (hk : k < hs.length) : hAt (hs ++ [h]) k = hAt hs k := by
  unfold hAt; rw [List.getD_eq_getElem?_getD, List.getD_eq_getElem?_getD, List.getElem?_append_left hk]
theorem hAt_eq {hs : List Hd} {h : Hd} : hAt (hs ++ [h]) hs.length = h := by
  unfold hAt; rw [List.getD_eq_getElem?_getD]; simp
theorem xAt_lt {hs : List (List Int)} {h : List Int} {k : Nat} (hk : k < hs.length) : xAt (hs ++ [h]) k = xAt hs k := by
  unfold xAt; rw [List.getD_eq_getElem?_getD, List.getD_eq_getElem?_getD, List.getElem?_append_left hk]
theorem xAt_eq {hs : List (List Int)} {h : List Int} : xAt (hs ++ [h]) hs.length = h := by
  unfold xAt; rw [List.getD_eq_getElem?_getD]; simp
theorem IntsAt.grown {w w' : World} {A : Option Addr} {n : Nat} {xs : List Int} {row : Option Nat} (h : IntsAt w A n xs) (hg : w.grownBy w' row) (hne : ∀ a, A = some a → row ≠ some a.block) : IntsAt w' A n xs := by
  refine ⟨h.1, fun hn => ?_⟩
  obtain ⟨b, off, rfl, hb, hc⟩ := h.2 hn
  exact ⟨b, off, rfl, Nat.lt_of_lt_of_le hb hg.size, fun k hk j u hu => (World.cell?_of_block (hg.block b hb (fun e => hne _ rfl e.symm))).trans (hc k hk j u hu)⟩
/-- a slice of slices reads as a list of lists -/
structure SsAt (w : World) (A : Option Addr) (n : Nat) (hs : List Hd) (xss : List (List Int)) : Prop where
  sl : SlAt encH 1 ⟨none, 0, 0⟩ w A n hs
  xl : xss.length = n
  inn : ∀ k, k < n → IntsAt w (hAt hs k).A (hAt hs k).n (xAt xss k)
  bd : ∀ k, k < n → ∀ a, (hAt hs k).A = some a → a.block < w.heap.size
theorem SsAt.nil (w : World) : SsAt w none 0 [] [] := ⟨⟨rfl, fun h => absurd h (by omega)⟩, rfl, fun k hk => absurd hk (by omega), fun k hk => absurd hk (by omega)⟩
theorem SsAt.later {w w' : World} {A : Option Addr} {n : Nat} {hs : List Hd} {xss : List (List Int)} (h : SsAt w A n hs xss) (hb : Below w.heap.size w w') : SsAt w' A n hs xss :=
  ⟨⟨h.sl.1, h.sl.2.later hb⟩, h.xl, fun k hk => (h.inn k hk).later hb, fun k hk a ha => Nat.lt_of_lt_of_le (h.bd k hk a ha) hb.size⟩
theorem SsAt.get {w : World} {A : Option Addr} {n : Nat} {hs : List Hd} {xss : List (List Int)} (h : SsAt w A n hs xss) {k : Nat} (hk : k < n) :
    ∃ b off, A = some ⟨b, off, none⟩ ∧ b < w.heap.size ∧ w.cell? ⟨b, off + k, none⟩ = some (.slice (hAt hs k).A (hAt hs k).n (hAt hs k).c) ∧ IntsAt w (hAt hs k).A (hAt hs k).n (xAt xss k) := by
  obtain ⟨b, off, e, hb, hc⟩ := h.sl.2 (by omega)
  have h1 := hc k hk 0 _ rfl
  rw [Nat.mul_one] at h1
  exact ⟨b, off, e, hb, h1, h.inn k hk⟩
/-- a slice of slices that the call itself makes -/
structure OwnSs (base : Nat) (e : TypeId) (w : World) (v : Value) (n : Nat) (hs : List Hd) (xss : List (List Int)) : Prop where
  own : w.ownsRow base e 1 v n (hs.flatMap encH)
  hl : hs.length = n
  xl : xss.length = n
  inn : ∀ k, k < n → IntsAt w (hAt hs k).A (hAt hs k).n (xAt xss k) ∧ ∀ a, (hAt hs k).A = some a → v.ownBlock ≠ some a.block ∧ a.block < w.heap.size
section
variable {base : Nat} {e : TypeId} {w w' : World} {v : Value} {n : Nat} {hs : List Hd} {xss : List (List Int)}
theorem OwnSs.nil (w : World) (base : Nat) (e : TypeId) : OwnSs base e w (.slice none 0 0) 0 [] [] :=
  ⟨World.ownsRow_nil w base e 1, rfl, rfl, fun k hk => absurd hk (by omega)⟩
theorem OwnSs.later (h : OwnSs base e w v n hs xss) (hb : Below w.heap.size w w') : OwnSs base e w' v n hs xss :=
  ⟨own_below h.own hb, h.hl, h.xl, fun k hk => ⟨(h.inn k hk).1.later hb, fun a ha => ⟨((h.inn k hk).2 a ha).1, Nat.lt_of_lt_of_le ((h.inn k hk).2 a ha).2 hb.size⟩⟩⟩
theorem OwnSs.ss (h : OwnSs base e w v n hs xss) : ∃ A c, v = .slice A n c ∧ SsAt w A n hs xss := by
  obtain ⟨A, c, rfl, -, hsl⟩ := SlAt.of_own (d := (⟨none, 0, 0⟩ : Hd)) encH_len h.own h.hl
  exact ⟨A, c, rfl, hsl, h.xl, fun k hk => (h.inn k hk).1, fun k hk a ha => ((h.inn k hk).2 a ha).2⟩
theorem OwnSs.push (h : OwnSs base e w v n hs xss) {o : Obj} {v' : Value} {x : Hd} {xs : List Int} (hx : IntsAt w x.A x.n xs) (hne : ∀ a, x.A = some a → v.ownBlock ≠ some a.block ∧ a.block < w.heap.size)
    (ho : w'.ownsRow base e 1 v' (n + 1) ((hs ++ [x]).flatMap encH)) (hg : (w.alloc o).grownBy w' v.ownBlock) (ha : v'.ownBlock = v.ownBlock ∨ v'.ownBlock = some (w.alloc o).heap.size) : OwnSs base e w' v' (n + 1) (hs ++ [x]) (xss ++ [xs]) := by
  have hsz := hg.size
  simp only [World.size_alloc] at hsz
  have one : ∀ (y : Hd) (ys : List Int), IntsAt w y.A y.n ys → (∀ a, y.A = some a → v.ownBlock ≠ some a.block ∧ a.block < w.heap.size) → IntsAt w' y.A y.n ys ∧ ∀ a, y.A = some a → v'.ownBlock ≠ some a.block ∧ a.block < w'.heap.size := by
    intro y ys h1 h2
    refine ⟨IntsAt.grown (h1.later ((Below.refl _ _).alloc (Nat.le_refl _) o)) hg fun a e => (h2 a e).1, fun a e => ⟨?_, by have := (h2 a e).2; omega⟩⟩
    rcases ha with ha | ha
    · rw [ha]; exact (h2 a e).1
    · rw [ha]
      intro e'
      have h3 := (h2 a e).2
      have h4 := Option.some.inj e'
      simp at h4
      omega
  refine ⟨ho, by simp [h.hl], by simp [h.xl], fun k hk => ?_⟩
  rcases Nat.lt_succ_iff_lt_or_eq.1 hk with h' | rfl
  · rw [hAt_lt (by rw [h.hl]; exact h'), xAt_lt (by rw [h.xl]; exact h')]
    exact one _ _ (h.inn k h').1 (h.inn k h').2
  · have e1 := hAt_eq (hs := hs) (h := x)
    have e2 := xAt_eq (hs := xss) (h := xs)
    rw [h.hl] at e1
    rw [h.xl] at e2
    rw [e1, e2]
    exact one _ _ hx hne
/-- where a row of one's own lies -/
theorem own_addr {size : Nat} {A : Option Addr} {c : Nat} {xs : List Value} (h : w.ownsRow base e size (.slice A n c) n xs) : ∀ a, A = some a → base ≤ a.block ∧ a.block < w.heap.size := by
  intro a ha
  subst ha
  rcases h.2 with ⟨h1, h2⟩ | ⟨g, cap, cur, hv, hb, hh, r⟩
  · first | cases h1 | cases h2
  · cases hv
    exact ⟨hb, (Array.getElem?_eq_some_iff.1 hh).1⟩
end

end Go.Proofs.Ytdhlnlmhdacblaa

namespace Go.Proofs.Ytdhlnlmhdacblaa
open Go.RowKit
open Go.Sort (grow)
set_option linter.unusedVariables false
set_option linter.unusedSimpArgs false

def wi (n a b : Int) : Bool := decide (a ≤ n) && decide (n ≤ b)
theorem wi_true {x a b : Int} : wi x a b = true ↔ a ≤ x ∧ x ≤ b := by simp [wi]
structure Br where
  heat : Int
  long : Int
structure Pc where
  long : Int
  hs : List Int
structure Pm where
  long : Int
  h : Hd
def encB (b : Br) : List Value := [.int .i64 b.heat, .int .i64 b.long]
def encP (m : Pm) : List Value := [.int .i64 m.long, .slice m.h.A m.h.n m.h.c]
theorem encB_len (x : Br) : (encB x).length = 2 := rfl
theorem encP_len (x : Pm) : (encP x).length = 2 := rfl
theorem encB_one (x : Br) : ∀ u ∈ encB x, u.oneCell' = true := by
  intro u hu; simp only [encB, List.mem_cons, List.not_mem_nil, or_false] at hu; rcases hu with rfl | rfl <;> rfl
theorem encP_one (x : Pm) : ∀ u ∈ encP x, u.oneCell' = true := by
  intro u hu; simp only [encP, List.mem_cons, List.not_mem_nil, or_false] at hu; rcases hu with rfl | rfl <;> rfl
def brAt (bs : List Br) (k : Nat) : Br := bs.getD k ⟨0, 0⟩
def pcAt (ps : List Pc) (k : Nat) : Pc := ps.getD k ⟨0, []⟩
def pmAt (ms : List Pm) (k : Nat) : Pm := ms.getD k ⟨0, ⟨none, 0, 0⟩⟩
def BrsAt (w : World) (A : Option Addr) (n : Nat) (bs : List Br) : Prop := SlAt encB 2 ⟨0, 0⟩ w A n bs
/-- pieces in memory, each with its heats -/
structure PcsAt (w : World) (A : Option Addr) (n : Nat) (ms : List Pm) (ps : List Pc) : Prop where
  sl : SlAt encP 2 ⟨0, ⟨none, 0, 0⟩⟩ w A n ms
  pl : ps.length = n
  lg : ∀ k, k < n → (pmAt ms k).long = (pcAt ps k).long
  inn : ∀ k, k < n → IntsAt w (pmAt ms k).h.A (pmAt ms k).h.n (pcAt ps k).hs
section
variable {w w' : World} {A : Option Addr} {n : Nat}
theorem BrsAt.later {bs : List Br} (h : BrsAt w A n bs) (hb : Below w.heap.size w w') : BrsAt w' A n bs := ⟨h.1, h.2.later hb⟩
theorem BrsAt.get {bs : List Br} (h : BrsAt w A n bs) {k : Nat} (hk : k < n) :
    ∃ b off, A = some ⟨b, off, none⟩ ∧ b < w.heap.size ∧ w.cell? ⟨b, off + k * 2, none⟩ = some (.int .i64 (brAt bs k).heat) ∧ w.cell? ⟨b, off + k * 2 + 1, none⟩ = some (.int .i64 (brAt bs k).long) := by
  obtain ⟨b, off, e, hb, hc⟩ := h.2 (by omega)
  exact ⟨b, off, e, hb, hc k hk 0 _ rfl, hc k hk 1 _ rfl⟩
theorem PcsAt.later {ms : List Pm} {ps : List Pc} (h : PcsAt w A n ms ps) (hb : Below w.heap.size w w') : PcsAt w' A n ms ps :=
  ⟨⟨h.sl.1, h.sl.2.later hb⟩, h.pl, h.lg, fun k hk => (h.inn k hk).later hb⟩
theorem PcsAt.get {ms : List Pm} {ps : List Pc} (h : PcsAt w A n ms ps) {k : Nat} (hk : k < n) :
    ∃ b off, A = some ⟨b, off, none⟩ ∧ b < w.heap.size ∧ w.cell? ⟨b, off + k * 2, none⟩ = some (.int .i64 (pcAt ps k).long) ∧
      w.cell? ⟨b, off + k * 2 + 1, none⟩ = some (.slice (pmAt ms k).h.A (pmAt ms k).h.n (pmAt ms k).h.c) ∧ IntsAt w (pmAt ms k).h.A (pmAt ms k).h.n (pcAt ps k).hs := by
  obtain ⟨b, off, e, hb, hc⟩ := h.sl.2 (by omega)
  exact ⟨b, off, e, hb, by rw [← h.lg k hk]; exact hc k hk 0 _ rfl, hc k hk 1 _ rfl, h.inn k hk⟩
theorem PcsAt.len {ms : List Pm} {ps : List Pc} (h : PcsAt w A n ms ps) {k : Nat} (hk : k < n) : (pmAt ms k).h.n = (pcAt ps k).hs.length := (h.inn k hk).1.symm
end
/-- a sawing under way: the bar of each piece so far, the rests, how many pieces each bar has, wrong marks -/
structure Sw where
  of : List Int
  rests : List Int
  cuts : List Int
  wrong : Int
def hasI (l : List Int) (v : Int) : Bool := anyN l.length fun k => iAt l k == v
def wrB (bs : List Br) (ps : List Pc) (piece bar : Nat) : Bool := !hasI (pcAt ps piece).hs (brAt bs bar).heat
def fitS (kerf : Int) (st : Sw) (bar : Nat) (long : Int) : Bool := decide ((bif decide (0 < iAt st.cuts bar) then long + kerf else long) ≤ iAt st.rests bar)
def stS (bs : List Br) (ps : List Pc) (kerf : Int) (st : Sw) (bar : Nat) : Sw :=
  { of := st.of ++ [(bar : Int)]
    rests := st.rests.set bar (iAt st.rests bar - (pcAt ps st.of.length).long - (bif decide (0 < iAt st.cuts bar) then kerf else 0))
    cuts := st.cuts.set bar (iAt st.cuts bar + 1)
    wrong := st.wrong + (bif wrB bs ps st.of.length bar then 1 else 0) }
/-- one bar for the next piece: is it taken? -/
def tkS (bs : List Br) (ps : List Pc) (kerf most : Int) (st : Sw) (bar : Nat) : Bool :=
  fitS kerf st bar (pcAt ps st.of.length).long && decide ((stS bs ps kerf st bar).wrong ≤ most)
/-- all sawings behind one, p pieces more, in the order in which they are found -/
def swL (bs : List Br) (ps : List Pc) (kerf most : Int) (nb : Nat) : Nat → Sw → List Sw
  | 0, st => [st]
  | p + 1, st => (List.range nb).flatMap fun bar => bif tkS bs ps kerf most st bar then swL bs ps kerf most nb p (stS bs ps kerf st bar) else []
/-- those of the first k bars -/
def swK (bs : List Br) (ps : List Pc) (kerf most : Int) (nb p : Nat) (st : Sw) (k : Nat) : List Sw :=
  (List.range k).flatMap fun bar => bif tkS bs ps kerf most st bar then swL bs ps kerf most nb p (stS bs ps kerf st bar) else []
section
variable {bs : List Br} {ps : List Pc} {kerf most : Int} {nb p k : Nat} {st : Sw}
theorem swL_succ : swL bs ps kerf most nb (p + 1) st = swK bs ps kerf most nb p st nb := rfl
theorem swK_no (h : tkS bs ps kerf most st k = false) : swK bs ps kerf most nb p st (k + 1) = swK bs ps kerf most nb p st k := by
  unfold swK; rw [List.range_succ, List.flatMap_append]; simp [h]
theorem swK_yes (h : tkS bs ps kerf most st k = true) : swK bs ps kerf most nb p st (k + 1) = swK bs ps kerf most nb p st k ++ swL bs ps kerf most nb p (stS bs ps kerf st k) := by
  unfold swK; rw [List.range_succ, List.flatMap_append]; simp [h]
theorem swK_pre (hk : k ≤ nb) : swK bs ps kerf most nb p st k <+: swK bs ps kerf most nb p st nb := by
  unfold swK
  obtain ⟨j, rfl⟩ := Nat.exists_eq_add_of_le hk
  rw [List.range_add, List.flatMap_append]
  exact List.prefix_append _ _
end
/-- the first sawing: nothing is cut -/
def sw0 (bs : List Br) : Sw := ⟨[], bs.map (·.long), List.replicate bs.length 0, 0⟩
def swA (bs : List Br) (ps : List Pc) (kerf most : Int) : List Sw := swL bs ps kerf most bs.length ps.length (sw0 bs)
/-- what Check says -/
def ckH (l : List Int) : Bool := allN l.length fun k => wi (iAt l k) 0 9 && !(decide (0 < k) && decide (iAt l k ≤ iAt l (k - 1)))
def ckS (bs : List Br) (ps : List Pc) (kerf wrong : Int) : Bool :=
  (decide (bs.length ≤ 6) && (decide (ps.length ≤ 8) && (wi kerf 0 20 && wi wrong 0 8))) && (allN bs.length (fun k => wi (brAt bs k).heat 0 9 && wi (brAt bs k).long 1 999) && allN ps.length (fun k => wi (pcAt ps k).long 1 999 && ckH (pcAt ps k).hs))

end Go.Proofs.Ytdhlnlmhdacblaa

namespace Go.Proofs.Ytdhlnlmhdacblaa
open Go.RowKit
open Go.Sort (grow)
set_option linter.unusedVariables false
set_option linter.unusedSimpArgs false

section
variable {P : Program} (w : World)
theorem run_append_new {α : Type} {enc : α → List Value} {d : α} (t ty e : TypeId) (size bytes : Nat) (E : ElemT P t e size bytes) (hs : ∀ x, (enc x).length = size)
    (B : Option Addr) (n cap : Nat) (xs : List α) (hS : SlAt enc size d w B n xs) (hB : B = none → n = 0 ∧ cap = 0)
    (A : Option Addr) (m c : Nat) (ys : List α) (hr : SlAt enc size d w A m ys) (hm : 0 < m) (hg : cap < n + m) (hsz : n + m ≤ 100000) :
    ∃ c' w', (Builtin.append_ #[t, t] ty #[.slice B n cap, .slice A m c]).run P w = .ok (.slice (some ⟨w.heap.size, 0, none⟩) (n + m) c') w' ∧
      w'.ownsRow w.heap.size e size (.slice (some ⟨w.heap.size, 0, none⟩) (n + m) c') (n + m) ((xs ++ ys).flatMap enc) ∧ Below w.heap.size w w' := by
  obtain ⟨i, z, hi, hz, hsize, hby, hzs⟩ := E.info
  have ht := E.ht
  subst hsize
  subst hby
  have hsm := E.small
  have hx := hS.reads hs E.pos
  have hy := hr.reads hs E.pos
  have h63 : n + m ≤ maxLen := by unfold maxLen; omega
  have hbytes : (n + m) * i.bytes ≤ 140737488355328 := by
    have : (n + m) * i.bytes ≤ 100000 * 1000 := Nat.mul_le_mul hsz hsm
    omega
  have hlen : (xs.flatMap enc ++ ys.flatMap enc).length = (n + m) * i.size := by rw [List.length_append, hx.1, hy.1, Nat.add_mul]
  have grown : ∀ (old : Nat), old < n + m →
      (w.drew.alloc (.cells ((xs.flatMap enc).toArray ++ (ys.flatMap enc).toArray ++ Builtin.zeroCells z.cells (grownCap w (n + m) old e - (n + m))) e)).ownsRow w.heap.size e i.size
        (.slice (some ⟨w.heap.size, 0, none⟩) (n + m) (grownCap w (n + m) old e)) (n + m) ((xs ++ ys).flatMap enc) ∧
      Below w.heap.size w (w.drew.alloc (.cells ((xs.flatMap enc).toArray ++ (ys.flatMap enc).toArray ++ Builtin.zeroCells z.cells (grownCap w (n + m) old e - (n + m))) e)) := by
    intro old ho
    have hge := grownCap_ge w (n + m) old e
    have hcm : grownCap w (n + m) old e ≤ maxLen := grownCap_le_maxLen w (n + m) old e h63
    rw [List.flatMap_append]
    refine ⟨⟨hlen, .inr ⟨w.heap.size, _, _, rfl, Nat.le_refl _, heap_alloc_new w.drew _, hge, hcm, ?_, ?_⟩⟩, ((Below.refl _ w).drew).alloc (Nat.le_refl _) _⟩
    · simp only [Array.size_append, List.size_toArray, size_zeroCells, hzs, hx.1, hy.1, ← Nat.add_mul]
      congr 1
      omega
    · simp only [Array.toList_append, List.append_assoc]
      rw [← List.append_assoc, ← hlen]
      exact List.take_left
  obtain ⟨a, rfl, -, hnews⟩ := hy.2 hm
  cases B with
  | none =>
    obtain ⟨rfl, rfl⟩ := hB rfl
    have hx0 : xs = [] := List.eq_nil_of_length_eq_zero hS.1
    subst hx0
    have hr' := run_append_nil (P := P) w t ty e i z ht hi hz a m c (ys.flatMap enc) hy.1 hnews hm (by omega) (by have hb := hbytes; simp only [Nat.zero_add] at hb; omega)
    have hgr := grown 0 (by omega)
    simp only [Nat.zero_add, List.nil_append, List.flatMap_nil, Array.empty_append] at hgr ⊢
    exact ⟨_, _, hr', hgr.1, hgr.2⟩
  | some b =>
    have holds : ∀ j u, (xs.flatMap enc)[j]? = some u → w.cell? (b.add j) = some u := by
      intro j u hu
      rcases Nat.eq_zero_or_pos n with rfl | hn
      · have hx0 : xs = [] := List.eq_nil_of_length_eq_zero hS.1
        subst hx0
        simp at hu
      · obtain ⟨b', e', -, hc⟩ := hx.2 hn
        cases e'
        exact hc j u hu
    have hr' := run_append_grow (P := P) w t ty e i z ht hi hz b n cap (xs.flatMap enc) hx.1 holds a m c (ys.flatMap enc) hy.1 hnews hg (by omega) (growslice_fits (by omega) hbytes)
    have hgr := grown cap (by omega)
    exact ⟨_, _, hr', hgr.1, hgr.2⟩
theorem wpList_append_N {α : Type} {enc : α → List Value} {d : α} {ops : Array Oper} {rest : List Oper} {o : Oper} {a : Act} {Q : Exit → Act → World → Prop} (hgd : o.guard = none) (s x : Operand) (t : TypeId)
    (ho : o.op = .call { callee := .builtin .append, args := #[s, x], argTypes := #[t, t] })
    (e : TypeId) (size bytes : Nat) (E : ElemT P t e size bytes) (hs : ∀ x, (enc x).length = size)
    (B : Option Addr) (n cap : Nat) (xs : List α) (hv : a.eval s = .slice B n cap) (hS : SlAt enc size d w B n xs) (hB : B = none → n = 0 ∧ cap = 0)
    (A : Option Addr) (m c : Nat) (ys : List α) (hx : a.eval x = .slice A m c) (hr : SlAt enc size d w A m ys) (hm : 0 < m) (hg : cap < n + m) (hsz : n + m ≤ 100000)
    (h : ∀ c' w', w'.ownsRow w.heap.size e size (.slice (some ⟨w.heap.size, 0, none⟩) (n + m) c') (n + m) ((xs ++ ys).flatMap enc) → Below w.heap.size w w' → wpList P ops Q rest (a.put o.dst (.slice (some ⟨w.heap.size, 0, none⟩) (n + m) c')) w') : wpList P ops Q (o :: rest) a w := by
  refine wpList_plain hgd fun K hK => ?_
  obtain ⟨c', w', hrun, h1, h2⟩ := run_append_new (P := P) w t o.type e size bytes E hs B n cap xs hS hB A m c ys hr hm hg hsz
  unfold Oper.wp execOp
  simp only [ho, resolve, invoke, builtin, Sem.run_bind, Sem.run_pure, Result.andThen_ok, List.map_toArray, List.map_cons, List.map_nil, hv, hx, hrun]
  exact hK _ _ (h c' w' h1 h2)
end

end Go.Proofs.Ytdhlnlmhdacblaa

namespace Go.Proofs.Ytdhlnlmhdacblaa
open Go.RowKit
open Go.Sort (grow)
set_option linter.unusedVariables false
set_option linter.unusedSimpArgs false

set_option maxHeartbeats 400000 in
theorem In_c (A : Option Addr) (n c : Nat) (x : Int) (xs : List Int) (w : World) (hn : n ≤ 40) (HX : IntsAt w A n xs) :
    Calls Try.prog 100 #[.slice A n c, .int .i64 x] w fun e w' => e = .returned (.bool (anyN n fun k => iAt xs k == x)) ∧ w = w' := by
  go_enter Try.func100, Try.ntmps100
  go_wp2
  go_loopw [5] (fun i (wr : World) => ∃ k : Nat, k ≤ n ∧ i = .int .i64 k ∧ Hid (∀ j, j < k → (iAt xs j == x) = false) ∧ wr = w) (fun i _ => n - (intOf i).toNat)
  case atStart => exact ⟨0, by omega, rfl, fun j hj => absurd hj (by omega), rfl⟩
  case round =>
    obtain ⟨k, hk, rfl, H, rfl⟩ := hrel
    by_cases hlt : k < n
    · obtain ⟨b, o, rfl, hb, x0⟩ := HX.get hlt
      have hB : decide ((k : Int) < n) = true := by simp; omega
      cases e1 : (iAt xs k == x)
      · go_wp2
        go_roundw
        case rel => exact ⟨k + 1, by omega, by go_num, fun j hj => by
          rcases Nat.lt_succ_iff_lt_or_eq.1 hj with h | rfl
          · exact H.out j h
          · exact e1, trivial⟩
        case measure => simp [intOf]; omega
      · have hA := anyN_yes (p := fun k => iAt xs k == x) hlt e1
        go_wp2
        go_ret
        exact ⟨ret_bool hA.symm, rfl⟩
    · obtain rfl : n = k := by omega
      have hA := anyN_no (p := fun k => iAt xs k == x) H.out
      have hB : decide (((n : Nat) : Int) < n) = false := by simp
      clear H
      go_wp2
      go_ret
      exact ⟨ret_bool hA.symm, rfl⟩

set_option maxHeartbeats 400000 in
theorem SameInts_c (A B : Option Addr) (n m c d : Nat) (xs ys : List Int) (w : World) (hn : n ≤ 40) (hm : m ≤ 40) (HX : IntsAt w A n xs) (HY : IntsAt w B m ys) :
    Calls Try.prog 24 #[.slice A n c, .slice B m d] w fun e w' => e = .returned (.bool (n == m && allN n fun k => iAt xs k == iAt ys k)) ∧ Below w.heap.size w w' := by
  cases e0 : (n == m)
  · have hne : n ≠ m := by simpa using e0
    go_enter Try.func24, Try.ntmps24
    go_wp2
    go_ret
    exact ⟨rfl, by (repeat first | with_reducible assumption | with_reducible exact Below.refl _ _ | refine below_drewN ?_ _ | refine Below.drew ?_ | refine Below.alloc ?_ (by first | omega | (with_reducible exact Below.size (by assumption)) | (simp; done) | (simp; omega)) _ | refine Below.setCell ?_ (by first | omega | (with_reducible exact Below.size (by assumption)) | (simp; done) | (simp; omega)) _ | refine below_step (by assumption) (by first | omega | (with_reducible exact Below.size (by assumption)) | (simp; done) | (simp; omega)) ?_)⟩
  obtain rfl : n = m := by simpa using e0
  go_enter Try.func24, Try.ntmps24
  go_wp2
  go_loopw [5] (fun i (wr : World) => ∃ k : Nat, k ≤ n ∧ i = .int .i64 k ∧ Hid (∀ j, j < k → (iAt xs j == iAt ys j) = true) ∧ Below w.heap.size w wr) (fun i _ => n - (intOf i).toNat)
  case atStart => exact ⟨0, by omega, rfl, fun j hj => absurd hj (by omega), Below.refl _ _⟩
  case round =>
    obtain ⟨k, hk, rfl, H, hb⟩ := hrel
    by_cases hlt : k < n
    · obtain ⟨b, o, rfl, hb1, x0⟩ := (HX.later hb).get hlt
      obtain ⟨b', o', rfl, hb2, y0⟩ := (HY.later hb).get hlt
      have hB : decide ((k : Int) < n) = true := by simp; omega
      cases e1 : (iAt xs k == iAt ys k)
      · have hA : allN n (fun k => iAt xs k == iAt ys k) = false := allN_no hlt e1
        go_wp2
        go_quiet (fail)
        go_wp2
        go_ret
        exact ⟨ret_bool (by rw [hA]; simp), by (repeat first | with_reducible assumption | with_reducible exact Below.refl _ _ | refine below_drewN ?_ _ | refine Below.drew ?_ | refine Below.alloc ?_ (by first | omega | (with_reducible exact Below.size (by assumption)) | (simp; done) | (simp; omega)) _ | refine Below.setCell ?_ (by first | omega | (with_reducible exact Below.size (by assumption)) | (simp; done) | (simp; omega)) _ | refine below_step (by assumption) (by first | omega | (with_reducible exact Below.size (by assumption)) | (simp; done) | (simp; omega)) ?_)⟩
      · go_wp2
        go_quiet (fail)
        go_wp2
        go_roundw
        case rel => exact ⟨k + 1, by omega, by go_num, fun j hj => by
          rcases Nat.lt_succ_iff_lt_or_eq.1 hj with h | rfl
          · exact H.out j h
          · exact e1, by (repeat first | with_reducible assumption | with_reducible exact Below.refl _ _ | refine below_drewN ?_ _ | refine Below.drew ?_ | refine Below.alloc ?_ (by first | omega | (with_reducible exact Below.size (by assumption)) | (simp; done) | (simp; omega)) _ | refine Below.setCell ?_ (by first | omega | (with_reducible exact Below.size (by assumption)) | (simp; done) | (simp; omega)) _ | refine below_step (by assumption) (by first | omega | (with_reducible exact Below.size (by assumption)) | (simp; done) | (simp; omega)) ?_)⟩
        case measure => simp [intOf]; omega
    · obtain rfl : n = k := by omega
      have hA := Lib.hid (allN_iff.2 H.out)
      have hB : decide (((n : Nat) : Int) < n) = false := by simp
      clear H
      go_wp2
      go_ret
      exact ⟨ret_bool (by rw [hA.out]; rfl), by (repeat first | with_reducible assumption | with_reducible exact Below.refl _ _ | refine below_drewN ?_ _ | refine Below.drew ?_ | refine Below.alloc ?_ (by first | omega | (with_reducible exact Below.size (by assumption)) | (simp; done) | (simp; omega)) _ | refine Below.setCell ?_ (by first | omega | (with_reducible exact Below.size (by assumption)) | (simp; done) | (simp; omega)) _ | refine below_step (by assumption) (by first | omega | (with_reducible exact Below.size (by assumption)) | (simp; done) | (simp; omega)) ?_)⟩

end Go.Proofs.Ytdhlnlmhdacblaa

namespace Go.Proofs.Ytdhlnlmhdacblaa
open Go.RowKit
open Go.Sort (grow)
set_option linter.unusedVariables false
set_option linter.unusedSimpArgs false

set_option maxHeartbeats 400000 in
theorem within_c (n a b : Int) (w : World) :
    Calls Try.prog 102 #[.int .i64 n, .int .i64 a, .int .i64 b] w fun e w' => e = .returned (.bool (wi n a b)) ∧ w = w' := by
  go_enter Try.func102, Try.ntmps102
  go_wp2
  all_goals
    go_ret
    exact ⟨ret_bool (by simp [wi, *] <;> omega), rfl⟩
set_option maxHeartbeats 400000 in
theorem Within1_c (n a b : Int) (w : World) :
    Calls Try.prog 40 #[.int .i64 n, .int .i64 a, .int .i64 b] w fun e w' => e = .returned (.bool (wi n a b)) ∧ w = w' := by
  go_enter Try.func40, Try.ntmps40
  go_wp2
  all_goals
    go_ret
    exact ⟨ret_bool (by simp [wi, *] <;> omega), rfl⟩
set_option maxHeartbeats 400000 in
theorem index_c (A : Option Addr) (n c : Nat) (x : Int) (xs : List Int) (w : World) (hn : n ≤ 40) (HX : IntsAt w A n xs) :
    Calls Try.prog 76 #[.slice A n c, .int .i64 x] w fun e w' => (∃ z : Int, e = .returned (.int .i64 z) ∧ decide (0 ≤ z) = anyN n fun k => iAt xs k == x) ∧ w = w' := by
  go_enter Try.func76, Try.ntmps76
  go_wp2
  go_loopw [8] (fun i (wr : World) => ∃ k : Nat, k ≤ n ∧ i = .int .i64 k ∧ Hid (∀ j, j < k → (iAt xs j == x) = false) ∧ wr = w) (fun i _ => n - (intOf i).toNat)
  case atStart => exact ⟨0, by omega, rfl, fun j hj => absurd hj (by omega), rfl⟩
  case round =>
    obtain ⟨k, hk, rfl, H, rfl⟩ := hrel
    by_cases hlt : k < n
    · obtain ⟨b, o, rfl, hb, x0⟩ := HX.get hlt
      have hB : decide ((k : Int) < n) = true := by simp; omega
      cases e1 : (x == iAt xs k)
      · have e2 : (iAt xs k == x) = false := by rw [Bool.beq_comm]; exact e1
        have E2 := Lib.hid e2
        clear e2
        go_wp2
        go_roundw
        case rel => exact ⟨k + 1, by omega, by go_num, fun j hj => by
          rcases Nat.lt_succ_iff_lt_or_eq.1 hj with h | rfl
          · exact H.out j h
          · exact E2.out, trivial⟩
        case measure => simp [intOf]; omega
      · have hA := anyN_yes (p := fun k => iAt xs k == x) hlt (by rw [Bool.beq_comm]; exact e1)
        have HA := Lib.hid hA
        clear hA
        go_wp2
        go_ret
        exact ⟨⟨_, rfl, by rw [HA.out]; simp⟩, rfl⟩
    · obtain rfl : n = k := by omega
      have hA := Lib.hid (anyN_no (p := fun k => iAt xs k == x) H.out)
      have hB : decide (((n : Nat) : Int) < n) = false := by simp
      clear H
      go_wp2
      go_ret
      exact ⟨⟨_, rfl, by rw [hA.out]; rfl⟩, rfl⟩
set_option maxHeartbeats 400000 in
theorem contains_c (A : Option Addr) (n c : Nat) (x : Int) (xs : List Int) (w : World) (hn : n ≤ 40) (HX : IntsAt w A n xs) :
    Calls Try.prog 51 #[.slice A n c, .int .i64 x] w fun e w' => e = .returned (.bool (hasI xs x)) ∧ w = w' := by
  have hl := HX.1
  have e0 : hasI xs x = anyN n fun k => iAt xs k == x := by unfold hasI; rw [hl]
  have hc := index_c A n c x xs w hn HX
  rw [e0]
  obtain ⟨R, hR⟩ : ∃ R, (anyN n fun k => iAt xs k == x) = R := ⟨_, rfl⟩
  rw [hR] at hc ⊢
  replace hc := Lib.hid hc
  clear hR e0 HX hl
  go_enter Try.func51, Try.ntmps51
  go_wp2_with fail
  refine hc.out.mono ?_
  rintro e w' ⟨⟨z, rfl, hz⟩, rfl⟩
  go_wp2
  go_ret
  exact ⟨rfl, rfl⟩
theorem int_info : (Try.prog.info? 3).map (fun i => (i.zero, i.size, i.bytes)) = some (some (.int .i64 0), 1, 8) := by kernel_rfl
theorem intE : ElemT Try.prog 36 3 1 8 := by
  obtain ⟨i0, hi0, hz0, hz1, hz2⟩ := info_parts int_info
  exact ⟨Try.underlying36, ⟨i0, _, hi0, hz0, hz1, hz2, rfl⟩, by omega, by omega⟩
theorem eql_nil {P : Program} {a : Option Addr} {n c : Nat} (w : World) {t : TypeId} (e : TypeId) (h : P.underlying t = some (.slice e)) : (binOp .eql t (.slice a n c) (.slice none 0 0)).run P w = .ok (.bool a.isNone) w := by
  simp only [binOp]
  simp [Op.equal, Op.maxDepth, Lib.run_equalIn_slice_nil w 9999 t e a n c 0 0 h]
set_option maxRecDepth 100000 in
set_option maxHeartbeats 800000 in
/-- a copy of a slice, in new memory -/
theorem clone_c (A : Option Addr) (n c : Nat) (xs : List Int) (w : World) (hn : n ≤ 1000) (HX : IntsAt w A n xs) :
    Calls Try.prog 73 #[.slice A n c] w fun e w' => ∃ A1 c1, e = .returned (.slice A1 n c1) ∧ w'.ownsRow w.heap.size 3 1 (.slice A1 n c1) n (xs.flatMap encI) ∧ Below w.heap.size w w' := by
  have HXI := Lib.hid HX
  clear HX
  cases A with
  | none =>
    have h0 : n = 0 := by
      rcases Nat.eq_zero_or_pos n with h | h
      · exact h
      · obtain ⟨b, o, e, -⟩ := HXI.out.2 h; cases e
    subst h0
    have hx0 : xs = [] := List.eq_nil_of_length_eq_zero HXI.out.1
    subst hx0
    have hnil : ∀ w, (binOp .eql 36 (.slice none 0 c) (.slice none 0 0)).run Try.prog w = .ok (.bool true) w := fun w => eql_nil w _ Try.underlying36
    go_enter Try.func73, Try.ntmps73
    go_wp2
    go_ret
    exact ⟨none, 0, rfl, World.ownsRow_nil _ _ _ _, Below.refl _ _⟩
  | some a =>
    have hnil : ∀ w, (binOp .eql 36 (.slice (some a) n c) (.slice none 0 0)).run Try.prog w = .ok (.bool false) w := fun w => eql_nil w _ Try.underlying36
    go_enter Try.func73, Try.ntmps73
    go_wp2_with (at_builtin; go_must (refine wpList_append_T _ (d := (0 : Int)) rfl (.tmp 5) (.tmp 6) _ rfl w.heap.size _ 1 8 intE encI_len encI_one (.slice (some ⟨w.heap.size, 0, none⟩) 0 0) (some w.heap.size) 0 [] rfl rfl ?ow (some a) n c xs rfl ?sl (by omega) ?sz ?_; (case ow => exact own_empty (by first | (simp; done) | (simp; omega)) (by simp)); (case sz => (first | (simp; done) | (simp; omega))); (case sl => exact ints_iff.1 (HXI.out.later (by (repeat first | with_reducible assumption | with_reducible exact Below.refl _ _ | (with_reducible refine Below.alloc ?_ ?side _; case side => (first | omega | (with_reducible exact Below.size (by assumption)) | (simp; done) | (simp; omega))) | (with_reducible refine Below.setCell ?_ ?side _; case side => (first | omega | (with_reducible exact Below.size (by assumption)) | (simp; done) | (simp; omega))) | with_reducible refine Below.drew ?_ | with_reducible refine below_drewN ?_ _ | (with_reducible refine below_step (by assumption) ?side ?_; case side => (first | omega | (with_reducible exact Below.size (by assumption)) | (simp; done) | (simp; omega))))))); (rintro v8 w8 ho8 hg8 ha8); (rw [Nat.zero_add, List.nil_append] at ho8); (obtain ⟨A8, C8, rfl, -, -⟩ := SlAt.of_own (d := (0 : Int)) encI_len ho8 HXI.out.1); (have hb8 : Below w.heap.size w w8 := (Below.grown (by (repeat first | with_reducible assumption | with_reducible exact Below.refl _ _ | (with_reducible refine Below.alloc ?_ ?side _; case side => (first | omega | (with_reducible exact Below.size (by assumption)) | (simp; done) | (simp; omega))) | (with_reducible refine Below.setCell ?_ ?side _; case side => (first | omega | (with_reducible exact Below.size (by assumption)) | (simp; done) | (simp; omega))) | with_reducible refine Below.drew ?_ | with_reducible refine below_drewN ?_ _ | (with_reducible refine below_step (by assumption) ?side ?_; case side => (first | omega | (with_reducible exact Below.size (by assumption)) | (simp; done) | (simp; omega))))) hg8 (by simp) (fun k hk => (by cases hk; omega)))); (have hO8 := Lib.hid ho8); (clear ho8 ha8 hg8)))
    go_ret
    exact ⟨A8, C8, rfl, hO8.out, hb8⟩

end Go.Proofs.Ytdhlnlmhdacblaa
