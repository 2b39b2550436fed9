/- Cuts of nets (layer 11), in plain Lean: a net can be just if every cut can; the least and the greatest of a pipe. -/
import Derived.Test.YtdhlnlmhdacblaaTs32
namespace Go.Proofs.Ytdhlnlmhdacblaa
open Go.RowKit
open Go.Sort (grow)
set_option linter.unusedVariables false
set_option linter.unusedSimpArgs false

/-- what pipe p adds to the room of a set of nodes -/
def gp (S : Nat → Bool) (p : Pp) : Int := (bif S p.to.toNat && !S p.fr.toNat then p.hi else 0) - (bif S p.fr.toNat && !S p.to.toNat then p.lo else 0)
def gap (S : Nat → Bool) : List Pp → Int
  | [] => 0
  | p :: l => gp S p + gap S l
def Can (l : List Pp) : Prop := ∀ S : Nat → Bool, 0 ≤ gap S l
theorem gap_append (S : Nat → Bool) (a b : List Pp) : gap S (a ++ b) = gap S a + gap S b := by
  induction a with
  | nil => simp [gap]
  | cons p a ih => simp [gap, ih]; omega
theorem ppAt_lt {l : List Pp} {k : Nat} (h : k < l.length) : ppAt l k = l[k] := by
  unfold ppAt; rw [List.getD_eq_getElem?_getD, List.getElem?_eq_getElem h]; rfl
theorem gap_take (pp : List Pp) (S n : Nat) (h : n ≤ pp.length) : inTo pp S n - outTo pp S n = gap S.testBit (pp.take n) := by
  induction n with
  | zero => simp [inTo, outTo, gap]
  | succ n ih =>
    have h1 := ih (by omega)
    rw [List.take_succ_eq_append_getElem (by omega), gap_append, ← h1, ← ppAt_lt (by omega)]
    simp only [inTo, outTo, gap, gp]
    omega
theorem gap_congr {S T : Nat → Bool} {l : List Pp} (h : ∀ p ∈ l, S p.fr.toNat = T p.fr.toNat ∧ S p.to.toNat = T p.to.toNat) : gap S l = gap T l := by
  induction l with
  | nil => rfl
  | cons p l ih =>
    have h1 := h p (by simp)
    simp only [gap, gp, h1.1, h1.2, ih fun q hq => h q (by simp [hq])]

def bitsOf (S : Nat → Bool) : Nat := (S 0).toNat + 2 * (S 1).toNat + 4 * (S 2).toNat + 8 * (S 3).toNat + 16 * (S 4).toNat + 32 * (S 5).toNat + 64 * (S 6).toNat
theorem bits_all : ∀ b0 b1 b2 b3 b4 b5 b6 : Bool, let N := b0.toNat + 2 * b1.toNat + 4 * b2.toNat + 8 * b3.toNat + 16 * b4.toNat + 32 * b5.toNat + 64 * b6.toNat
    N < 128 ∧ N.testBit 0 = b0 ∧ N.testBit 1 = b1 ∧ N.testBit 2 = b2 ∧ N.testBit 3 = b3 ∧ N.testBit 4 = b4 ∧ N.testBit 5 = b5 ∧ N.testBit 6 = b6 := by decide +kernel
theorem bitsOf_lt (S : Nat → Bool) : bitsOf S < 128 := (bits_all (S 0) (S 1) (S 2) (S 3) (S 4) (S 5) (S 6)).1
theorem bitsOf_bit (S : Nat → Bool) (i : Nat) (h : i < 7) : (bitsOf S).testBit i = S i := by
  obtain ⟨_, h0, h1, h2, h3, h4, h5, h6⟩ := bits_all (S 0) (S 1) (S 2) (S 3) (S 4) (S 5) (S 6)
  obtain rfl | rfl | rfl | rfl | rfl | rfl | rfl : i = 0 ∨ i = 1 ∨ i = 2 ∨ i = 3 ∨ i = 4 ∨ i = 5 ∨ i = 6 := by omega
  all_goals assumption

/-- nodes from 0 to 6 -/
def NodesOk (l : List Pp) : Prop := ∀ p ∈ l, p.fr.toNat < 7 ∧ p.to.toNat < 7
def LoHi (l : List Pp) : Prop := ∀ p ∈ l, p.lo ≤ p.hi

theorem canL_iff {l : List Pp} (hn : NodesOk l) : canL l.length l = true ↔ Can l := by
  rw [canL, allN_iff]
  constructor
  · intro h S
    have h1 := h _ (bitsOf_lt S)
    have h2 := gap_take l (bitsOf S) l.length (Nat.le_refl _)
    rw [List.take_length] at h2
    rw [gap_congr (T := (bitsOf S).testBit) (fun p hp => ⟨(bitsOf_bit S _ (hn p hp).1).symm, (bitsOf_bit S _ (hn p hp).2).symm⟩)]
    simp at h1
    omega
  · intro h S _
    have h2 := gap_take l S l.length (Nat.le_refl _)
    rw [List.take_length] at h2
    have := h S.testBit
    simp
    omega

theorem gp_sub (S T : Nat → Bool) (p : Pp) (h : p.lo ≤ p.hi) : gp (fun n => S n || T n) p + gp (fun n => S n && T n) p ≤ gp S p + gp T p := by
  simp only [gp]
  generalize S p.fr.toNat = a
  generalize S p.to.toNat = b
  generalize T p.fr.toNat = c
  generalize T p.to.toNat = d
  cases a <;> cases b <;> cases c <;> cases d <;> simp <;> omega
theorem gap_sub (S T : Nat → Bool) (l : List Pp) (h : LoHi l) : gap (fun n => S n || T n) l + gap (fun n => S n && T n) l ≤ gap S l + gap T l := by
  induction l with
  | nil => simp [gap]
  | cons p l ih =>
    have h1 := gp_sub S T p (h p (by simp))
    have h2 := ih fun q hq => h q (by simp [hq])
    simp only [gap]
    omega
theorem gap_set (S : Nat → Bool) (l : List Pp) (i : Nat) (q : Pp) (hi : i < l.length) : gap S (l.set i q) = gap S l - gp S (ppAt l i) + gp S q := by
  induction l generalizing i with
  | nil => simp at hi
  | cons p l ih =>
    cases i with
    | zero => simp only [List.set_cons_zero, gap]; have : ppAt (p :: l) 0 = p := rfl; rw [this]; omega
    | succ i =>
      have h1 := ih i (by simpa using hi)
      have : ppAt (p :: l) (i + 1) = ppAt l i := by simp [ppAt]
      simp only [List.set_cons_succ, gap, h1, this]; omega

/-- a pipe comes into a set; it goes out of it -/
def enP (S : Nat → Bool) (p : Pp) : Bool := S p.to.toNat && !S p.fr.toNat
def lvP (S : Nat → Bool) (p : Pp) : Bool := S p.fr.toNat && !S p.to.toNat
/-- the room of a set without pipe i -/
def gx (S : Nat → Bool) (l : List Pp) (i : Nat) : Int := gap S l - gp S (ppAt l i)

section
variable {l : List Pp} {i : Nat}
theorem gap_with (S : Nat → Bool) (a b : Int) (hi : i < l.length) : gap S (withPp l i a b) = gx S l i + (bif enP S (ppAt l i) then b else 0) - (bif lvP S (ppAt l i) then a else 0) := by
  unfold withPp gx
  rw [gap_set S l i _ hi]
  simp only [gp, enP, lvP]
  omega
theorem gap_self (S : Nat → Bool) : gap S l = gx S l i + (bif enP S (ppAt l i) then (ppAt l i).hi else 0) - (bif lvP S (ppAt l i) then (ppAt l i).lo else 0) := by
  unfold gx
  simp only [gp, enP, lvP]
  omega
theorem en_lv (S : Nat → Bool) (p : Pp) : enP S p = true → lvP S p = false := by
  unfold enP lvP; cases S p.fr.toNat <;> cases S p.to.toNat <;> simp
theorem lv_en (S : Nat → Bool) (p : Pp) : lvP S p = true → enP S p = false := by
  unfold enP lvP; cases S p.fr.toNat <;> cases S p.to.toNat <;> simp
theorem can_with_iff (a b : Int) (hi : i < l.length) : Can (withPp l i a b) ↔ ∀ S, 0 ≤ gx S l i + (bif enP S (ppAt l i) then b else 0) - (bif lvP S (ppAt l i) then a else 0) := by
  unfold Can
  exact ⟨fun h S => by rw [← gap_with S a b hi]; exact h S, fun h S => by rw [gap_with S a b hi]; exact h S⟩
/-- where the lower bound stays, only the sets count into which the pipe comes -/
theorem can_low {x a : Int} (hi : i < l.length) (hc : Can l) (ha : a ≤ (ppAt l i).lo) : Can (withPp l i a x) ↔ ∀ S, enP S (ppAt l i) = true → 0 ≤ gx S l i + x := by
  rw [can_with_iff a x hi]
  constructor
  · intro h S hS
    have := h S
    rw [hS, en_lv S _ hS] at this
    simpa using this
  · intro h S
    have h0 := hc S
    rw [gap_self S (i := i)] at h0
    cases e1 : enP S (ppAt l i)
    · cases e2 : lvP S (ppAt l i)
      · simp [e1, e2] at h0 ⊢; omega
      · simp [e1, e2] at h0 ⊢; omega
    · rw [en_lv S _ e1]
      have := h S e1
      simpa using this
theorem can_high {x b : Int} (hi : i < l.length) (hc : Can l) (hb : (ppAt l i).hi ≤ b) : Can (withPp l i x b) ↔ ∀ S, lvP S (ppAt l i) = true → 0 ≤ gx S l i - x := by
  rw [can_with_iff x b hi]
  constructor
  · intro h S hS
    have := h S
    rw [hS, lv_en S _ hS] at this
    simpa using this
  · intro h S
    have h0 := hc S
    rw [gap_self S (i := i)] at h0
    cases e1 : lvP S (ppAt l i)
    · cases e2 : enP S (ppAt l i)
      · simp [e1, e2] at h0 ⊢; omega
      · simp [e1, e2] at h0 ⊢; omega
    · rw [lv_en S _ e1]
      have := h S e1
      simpa using this
theorem cross (hi : i < l.length) (hlh : LoHi l) (hc : Can l) {S T : Nat → Bool} (hS : enP S (ppAt l i) = true) (hT : lvP T (ppAt l i) = true) : 0 ≤ gx S l i + gx T l i := by
  have hz : LoHi (withPp l i 0 0) := by
    intro p hp
    rcases List.mem_or_eq_of_mem_set hp with h | rfl
    · exact hlh p h
    · simp
  have h1 := gap_sub S T _ hz
  have e : ∀ U, gap U (withPp l i 0 0) = gx U l i := fun U => by rw [gap_with U 0 0 hi]; cases enP U (ppAt l i) <;> cases lvP U (ppAt l i) <;> simp
  rw [e, e, e, e] at h1
  have h2 := hc fun n => S n || T n
  have h3 := hc fun n => S n && T n
  rw [gap_self _ (i := i)] at h2 h3
  simp only [enP, Bool.and_eq_true, Bool.not_eq_true'] at hS
  simp only [lvP, Bool.and_eq_true, Bool.not_eq_true'] at hT
  simp [enP, lvP, hS.1, hS.2, hT.1, hT.2] at h2 h3
  omega

/-- L is the least, H the greatest that pipe i can carry -/
structure IsLow (l : List Pp) (i : Nat) (L : Int) : Prop where
  lo : (ppAt l i).lo ≤ L
  hi : L ≤ (ppAt l i).hi
  can : Can (withPp l i (ppAt l i).lo L)
  least : ∀ x, (ppAt l i).lo ≤ x → Can (withPp l i (ppAt l i).lo x) → L ≤ x
structure IsHigh (l : List Pp) (i : Nat) (H : Int) : Prop where
  lo : (ppAt l i).lo ≤ H
  hi : H ≤ (ppAt l i).hi
  can : Can (withPp l i H (ppAt l i).hi)
  most : ∀ x, x ≤ (ppAt l i).hi → Can (withPp l i x (ppAt l i).hi) → x ≤ H

theorem low_fix {L b : Int} (hi : i < l.length) (hlh : LoHi l) (hc : Can l) (h : IsLow l i L) (hb : L ≤ b) : Can (withPp l i L b) := by
  rw [can_with_iff L b hi]
  intro S
  have h0 := hc S
  rw [gap_self S (i := i)] at h0
  cases e1 : enP S (ppAt l i)
  · cases e2 : lvP S (ppAt l i)
    · simp [e1, e2] at h0 ⊢; omega
    · simp [e1, e2] at h0 ⊢
      rcases Int.lt_or_le (ppAt l i).lo L with hlt | hle
      · have hno : ¬ Can (withPp l i (ppAt l i).lo (L - 1)) := fun hx => by
          have := h.least (L - 1) (by omega) hx; omega
        rw [can_low hi hc (Int.le_refl _)] at hno
        have : ∃ S0, enP S0 (ppAt l i) = true ∧ ¬ 0 ≤ gx S0 l i + (L - 1) := by
          refine Classical.byContradiction fun hn => hno fun S0 hS0 => Classical.byContradiction fun hh => hn ⟨S0, hS0, hh⟩
        obtain ⟨S0, hS0, hlt0⟩ := this
        have := cross hi hlh hc hS0 e2
        omega
      · omega
  · have h1 := (can_low hi hc (Int.le_refl _)).1 h.can S e1
    rw [en_lv S _ e1]
    simp
    omega
theorem high_fix {H a : Int} (hi : i < l.length) (hlh : LoHi l) (hc : Can l) (h : IsHigh l i H) (ha : a ≤ H) : Can (withPp l i a H) := by
  rw [can_with_iff a H hi]
  intro S
  have h0 := hc S
  rw [gap_self S (i := i)] at h0
  cases e1 : lvP S (ppAt l i)
  · cases e2 : enP S (ppAt l i)
    · simp [e1, e2] at h0 ⊢; omega
    · simp [e1, e2] at h0 ⊢
      rcases Int.lt_or_le H (ppAt l i).hi with hlt | hle
      · have hno : ¬ Can (withPp l i (H + 1) (ppAt l i).hi) := fun hx => by
          have := h.most (H + 1) (by omega) hx; omega
        rw [can_high hi hc (Int.le_refl _)] at hno
        have : ∃ S0, lvP S0 (ppAt l i) = true ∧ ¬ 0 ≤ gx S0 l i - (H + 1) := by
          refine Classical.byContradiction fun hn => hno fun S0 hS0 => Classical.byContradiction fun hh => hn ⟨S0, hS0, hh⟩
        obtain ⟨S0, hS0, hlt0⟩ := this
        have := cross hi hlh hc e2 hS0
        omega
      · omega
  · have h1 := (can_high hi hc (Int.le_refl _)).1 h.can S e1
    rw [lv_en S _ e1]
    simp
    omega
theorem low_le_high {L H : Int} (hi : i < l.length) (hlh : LoHi l) (hc : Can l) (hL : IsLow l i L) (hH : IsHigh l i H) : L ≤ H :=
  hH.most L hL.hi (low_fix hi hlh hc hL hL.hi)
theorem withPp_nodes {a b : Int} (hi : i < l.length) (h : NodesOk l) : NodesOk (withPp l i a b) := by
  intro p hp
  rcases List.mem_or_eq_of_mem_set hp with h1 | rfl
  · exact h p h1
  · have := h (ppAt l i) (by rw [ppAt_lt hi]; exact List.getElem_mem hi)
    exact this
theorem withPp_lohi {a b : Int} (h : LoHi l) (hab : a ≤ b) : LoHi (withPp l i a b) := by
  intro p hp
  rcases List.mem_or_eq_of_mem_set hp with h1 | rfl
  · exact h p h1
  · exact hab
theorem withPp_length {a b : Int} : (withPp l i a b).length = l.length := by simp [withPp]
theorem withPp_self : withPp l i (ppAt l i).lo (ppAt l i).hi = l := by
  unfold withPp
  by_cases hi : i < l.length
  · rw [ppAt_lt hi]
    show l.set i l[i] = l
    simp
  · rw [List.set_eq_of_length_le (by omega)]
theorem leastN_spec {n : Nat} {p : Nat → Bool} : (leastN n p = n ∨ (leastN n p < n ∧ p (leastN n p) = true)) ∧ ∀ k, k < leastN n p → k < n → p k = false := by
  unfold leastN
  cases e : (List.range n).find? p with
  | none =>
    rw [List.find?_eq_none] at e
    exact ⟨.inl rfl, fun k _ hk => by simpa using e k (by simpa using hk)⟩
  | some j =>
    have hj := List.mem_of_find?_eq_some e
    have hp := List.find?_some e
    rw [List.find?_eq_some_iff_append] at e
    refine ⟨.inr ⟨by simpa using hj, hp⟩, fun k hk _ => ?_⟩
    obtain ⟨_, l1, l2, h1, h2⟩ := e
    have hlen : l1.length = j := by
      have h3 : (List.range n)[l1.length]? = some j := by rw [h1]; simp
      rw [List.getElem?_range (by
        have := congrArg List.length h1
        simp at this; omega)] at h3
      simpa using h3
    have h4 : (List.range n)[k]? = l1[k]? := by rw [h1]; rw [List.getElem?_append_left (by simpa [hlen] using hk)]
    simp at hk hj
    rw [List.getElem?_range (by omega)] at h4
    have := h2 k (List.mem_of_getElem? h4.symm)
    simpa using this
theorem endsP_low (hi : i < l.length) (hn : NodesOk l) (hlh : LoHi l) (hc : Can l) : IsLow l i (endsP l.length l i).lo := by
  have hd : (ppAt l i).lo ≤ (ppAt l i).hi := hlh _ (by rw [ppAt_lt hi]; exact List.getElem_mem hi)
  have hq : ∀ k : Nat, canL l.length (withPp l i (ppAt l i).lo ((ppAt l i).lo + k)) = true ↔ Can (withPp l i (ppAt l i).lo ((ppAt l i).lo + k)) := fun k => by
    have := canL_iff (withPp_nodes (a := (ppAt l i).lo) (b := (ppAt l i).lo + k) hi hn)
    rwa [withPp_length] at this
  obtain ⟨h1, h2⟩ := leastN_spec (n := ((ppAt l i).hi - (ppAt l i).lo).toNat) (p := fun k => canL l.length (withPp l i (ppAt l i).lo ((ppAt l i).lo + k)))
  have h3 : leastN ((ppAt l i).hi - (ppAt l i).lo).toNat (fun k => canL l.length (withPp l i (ppAt l i).lo ((ppAt l i).lo + k))) = lowP l.length l i := rfl
  rw [h3] at h1 h2
  have h4 : (endsP l.length l i).lo = (ppAt l i).lo + lowP l.length l i := rfl
  have hle : lowP l.length l i ≤ ((ppAt l i).hi - (ppAt l i).lo).toNat := leastN_le _ _
  refine ⟨by omega, by omega, ?_, fun x hx hcx => ?_⟩
  · rw [h4]
    rcases h1 with h1 | ⟨_, h1⟩
    · rw [h1, show (ppAt l i).lo + ((((ppAt l i).hi - (ppAt l i).lo).toNat : Nat) : Int) = (ppAt l i).hi by omega, withPp_self]
      exact hc
    · exact (hq _).1 h1
  · rw [h4]
    refine Classical.byContradiction fun hlt => ?_
    have h5 := h2 (x - (ppAt l i).lo).toNat (by omega) (by omega)
    have h6 := (hq (x - (ppAt l i).lo).toNat).2 (by rw [show (ppAt l i).lo + (((x - (ppAt l i).lo).toNat : Nat) : Int) = x by omega]; exact hcx)
    rw [h6] at h5
    cases h5
theorem endsP_high (hi : i < l.length) (hn : NodesOk l) (hlh : LoHi l) (hc : Can l) : IsHigh l i (endsP l.length l i).hi := by
  have hd : (ppAt l i).lo ≤ (ppAt l i).hi := hlh _ (by rw [ppAt_lt hi]; exact List.getElem_mem hi)
  have hq : ∀ k : Nat, canL l.length (withPp l i ((ppAt l i).hi - k) (ppAt l i).hi) = true ↔ Can (withPp l i ((ppAt l i).hi - k) (ppAt l i).hi) := fun k => by
    have := canL_iff (withPp_nodes (a := (ppAt l i).hi - k) (b := (ppAt l i).hi) hi hn)
    rwa [withPp_length] at this
  obtain ⟨h1, h2⟩ := leastN_spec (n := ((ppAt l i).hi - (ppAt l i).lo).toNat) (p := fun k => canL l.length (withPp l i ((ppAt l i).hi - k) (ppAt l i).hi))
  have h3 : leastN ((ppAt l i).hi - (ppAt l i).lo).toNat (fun k => canL l.length (withPp l i ((ppAt l i).hi - k) (ppAt l i).hi)) = highP l.length l i := rfl
  rw [h3] at h1 h2
  have h4 : (endsP l.length l i).hi = (ppAt l i).hi - highP l.length l i := rfl
  have hle : highP l.length l i ≤ ((ppAt l i).hi - (ppAt l i).lo).toNat := leastN_le _ _
  refine ⟨by omega, by omega, ?_, fun x hx hcx => ?_⟩
  · rw [h4]
    rcases h1 with h1 | ⟨_, h1⟩
    · rw [h1, show (ppAt l i).hi - ((((ppAt l i).hi - (ppAt l i).lo).toNat : Nat) : Int) = (ppAt l i).lo by omega, withPp_self]
      exact hc
    · exact (hq _).1 h1
  · rw [h4]
    refine Classical.byContradiction fun hlt => ?_
    have h5 := h2 ((ppAt l i).hi - x).toNat (by omega) (by omega)
    have h6 := (hq ((ppAt l i).hi - x).toNat).2 (by rw [show (ppAt l i).hi - ((((ppAt l i).hi - x).toNat : Nat) : Int) = x by omega]; exact hcx)
    rw [h6] at h5
    cases h5
end
theorem Can.mono {l m : List Pp} (h : Can l) (hg : ∀ S, gap S l ≤ gap S m) : Can m := fun S => Int.le_trans (h S) (hg S)
theorem low_le_low {l m : List Pp} {i j : Nat} {L L' : Int} (h : IsLow l i L) (h' : IsLow m j L') (hlo : (ppAt m j).lo ≤ L) (hc : Can (withPp m j (ppAt m j).lo L)) : L' ≤ L := h'.least L hlo hc

end Go.Proofs.Ytdhlnlmhdacblaa
