/- The way through a place (layer 11), in plain Lean. -/
import Derived.Test.YtoehifincdflhaaG11
namespace Go.Proofs.Ytoehifincdflhaa
open Go.RowKit
open Go.Sort (grow)
set_option linter.unusedVariables false

/-- a valid book's lines go from places, or from outside, to places, or to outside -/
structure InBk (np nl : Nat) (ls : List Ln) : Prop where
  fr : ∀ k, k < nl → (lnAt ls k).fr = -1 ∨ (0 ≤ (lnAt ls k).fr ∧ (lnAt ls k).fr < np)
  to : ∀ k, k < nl → (lnAt ls k).to = -1 ∨ (0 ≤ (lnAt ls k).to ∧ (lnAt ls k).to < np)
theorem inBk_of {np nl : Nat} {pl : List Sp} {ls : List Ln} {wr : Int} (h : ckBk np nl pl ls wr = true) : InBk np nl ls := by
  unfold ckBk at h
  simp only [Bool.and_eq_true] at h
  have h5 := allN_iff.1 h.2.2
  refine ⟨fun k hk => ?_, fun k hk => ?_⟩
  all_goals
    have := h5 k hk
    simp only [ckLn, Bool.and_eq_true, isEnd, isNo, Bool.not_eq_true', Bool.and_eq_false_iff, Bool.not_eq_false', bne_eq_false_iff_eq, wi_true] at this
    omega
/-- all pipes but the heap's -/
def Ra (np nl : Nat) (pl : List Sp) (ls : List Ln) (ws : Nat → Bool) (S : Nat → Bool) : Int :=
  sumF (fun i => gp S (wPp ws i (lnAt ls i)) + gp S (sPp (lnAt ls i))) nl + sumF (fun i => gp S (pPp i (spAt pl i))) np
theorem gap_Ra (S : Nat → Bool) (np nl : Nat) (pl : List Sp) (ls : List Ln) (ws : Nat → Bool) : gap S (flowL np nl pl ls ws) = Ra np nl pl ls ws S + gp S (hPp (nl * 999)) := gap_flow S np nl pl ls ws
theorem gp_w6_eq {S : Nat → Bool} {p : Pp} (h1 : p.fr.toNat ≠ 6) (h2 : p.to.toNat ≠ 6) : gp (w6 S) p = gp S p := by
  have e1 : (p.fr.toNat == 6) = false := by simpa using h1
  have e2 : (p.to.toNat == 6) = false := by simpa using h2
  unfold gp w6
  rw [e1, e2]
  simp
section
variable {np nl : Nat} {pl : List Sp} {ls : List Ln} {ws : Nat → Bool}
theorem nodeZ_6 (n : Int) (h : -1 ≤ n) (h5 : n < 5) : (nodeZ n).toNat ≠ 6 := by
  rcases nodeZ_cases n h h5 with h | h <;> omega
theorem Ra_w6 (h : OkBk np nl pl ls) (S : Nat → Bool) : Ra np nl pl ls ws (w6 S) ≤ Ra np nl pl ls ws S + nl * 999 := by
  have hp := h.hp
  have h1 : sumF (fun i => gp (w6 S) (wPp ws i (lnAt ls i)) + gp (w6 S) (sPp (lnAt ls i))) nl ≤ sumF (fun i => (gp S (wPp ws i (lnAt ls i)) + gp S (sPp (lnAt ls i))) + 999) nl := by
    refine sumF_le fun i _ => ?_
    obtain ⟨a1, a2, a3, a4, a5, a6, a7, a8, a9⟩ := h.ln i
    have e1 : gp (w6 S) (wPp ws i (lnAt ls i)) = gp S (wPp ws i (lnAt ls i)) := gp_w6_eq (nodeZ_6 _ a1 a2) (nodeZ_6 _ a3 a4)
    have e2 := gp_w6 S (sPp (lnAt ls i)) (nodeZ_6 _ a3 a4) a6
    rw [if_pos (show (sPp (lnAt ls i)).to.toNat = 6 from rfl)] at e2
    have e3 : (sPp (lnAt ls i)).hi = (lnAt ls i).s.hi := rfl
    rw [e3] at e2
    split at e2 <;> omega
  have h2 : sumF (fun i => gp (w6 S) (pPp i (spAt pl i))) np = sumF (fun i => gp S (pPp i (spAt pl i))) np :=
    sumF_congr fun i hi => gp_w6_eq (by simp [pPp]; omega) (by simp [pPp])
  have h3 := sumF_add (fun i => gp S (wPp ws i (lnAt ls i)) + gp S (sPp (lnAt ls i))) (fun _ => 999) nl
  have h4 := sumF_const (n := nl) (f := fun _ => (999 : Int)) (c := 999) (fun _ _ => Int.le_refl _)
  simp only [Ra, h2]
  omega
theorem Ra_off (hb : InBk np nl ls) (hp : np < 5) {S T : Nat → Bool} (hST : ∀ n, n ≠ np → S n = T n) : Ra np nl pl ls ws S = Ra np nl pl ls ws T := by
  have nz : ∀ n : Int, (n = -1 ∨ (0 ≤ n ∧ n < np)) → (nodeZ n).toNat ≠ np := fun n hn => by unfold nodeZ; split <;> omega
  unfold Ra
  rw [sumF_congr fun i hi => show gp S (wPp ws i (lnAt ls i)) + gp S (sPp (lnAt ls i)) = gp T (wPp ws i (lnAt ls i)) + gp T (sPp (lnAt ls i)) by
      rw [gp_off hST (nz _ (hb.fr i hi)) (nz _ (hb.to i hi)), gp_off (p := sPp (lnAt ls i)) hST (nz _ (hb.to i hi)) (by simp [sPp]; omega)],
    sumF_congr fun i hi => show gp S (pPp i (spAt pl i)) = gp T (pPp i (spAt pl i)) from gp_off hST (by simp [pPp]; omega) (by simp [pPp]; omega)]
/-- the heap's greater bound does not bind -/
theorem heap_free {R : (Nat → Bool) → Int} {B x H H' : Int} (hR : ∀ S, R (w6 S) ≤ R S + B) (hB : B ≤ H) (hH : H ≤ H') : (∀ S, 0 ≤ R S + gp S ⟨6, 5, x, H'⟩) ↔ ∀ S, 0 ≤ R S + gp S ⟨6, 5, x, H⟩ := by
  have h65 : (6 : Int).toNat = 6 ∧ (5 : Int).toNat = 5 := ⟨rfl, rfl⟩
  constructor
  · intro h S
    have h0 := h S
    have h1 := h (w6 S)
    have h2 := hR S
    simp only [gp, h65.1, h65.2] at h0 h1 ⊢
    simp only [w6] at h1
    cases e5 : S 5 <;> cases e6 : S 6 <;> simp [e5, e6] at h0 h1 ⊢ <;> omega
  · intro h S
    have h0 := h S
    simp only [gp, h65.1, h65.2] at h0 ⊢
    cases e5 : S 5 <;> cases e6 : S 6 <;> simp [e5, e6] at h0 ⊢ <;> omega
end

/-- the book with the new place -/
def oPl (pl : List Sp) : List Sp := pl ++ [⟨0, 0⟩]
def oLs (np : Nat) (ls : List Ln) (k : Nat) : List Ln := ls.set k { lnAt ls k with fr := np } ++ [⟨(lnAt ls k).fr, np, (lnAt ls k).w, ⟨0, 0⟩⟩]
section
variable {np nl k : Nat} {pl : List Sp} {ls : List Ln}
theorem oPl_at (hl : pl.length = np) (j : Nat) : spAt (oPl pl) j = if j < np then spAt pl j else ⟨0, 0⟩ := by
  unfold spAt oPl
  simp only [List.getD_eq_getElem?_getD]
  by_cases h : j < np
  · rw [if_pos h, List.getElem?_append_left (by omega)]
  · rw [if_neg h]
    by_cases e : j = np
    · subst e; rw [List.getElem?_append_right (by omega)]; simp [hl]
    · rw [List.getElem?_eq_none (by simp; omega)]; rfl
theorem oLs_at (hl : ls.length = nl) (hk : k < nl) (i : Nat) (hi : i < nl) : lnAt (oLs np ls k) i = if i = k then { lnAt ls k with fr := (np : Int) } else lnAt ls i := by
  unfold lnAt oLs
  simp only [List.getD_eq_getElem?_getD]
  rw [List.getElem?_append_left (by simp; omega), List.getElem?_set]
  by_cases e : i = k
  · subst e; rw [if_pos rfl, if_pos (by omega), if_pos rfl]; rfl
  · rw [if_neg (fun h => e h.symm), if_neg e]
theorem oLs_new (hl : ls.length = nl) : lnAt (oLs np ls k) nl = ⟨(lnAt ls k).fr, np, (lnAt ls k).w, ⟨0, 0⟩⟩ := by
  unfold oLs
  show (List.set ls k _ ++ [_]).getD nl _ = _
  rw [List.getD_eq_getElem?_getD, List.getElem?_append_right (by simp; omega)]
  simp [hl]
def zw : Nat → Bool := fun _ => false
theorem zero_bits : (0 : Nat).testBit = zw := by funext i; simp [zw]
theorem gp_zero (S : Nat → Bool) (f t : Int) : gp S ⟨f, t, 0, 0⟩ = 0 := by
  unfold gp; cases S f.toNat <;> cases S t.toNat <;> simp
/-- what the book's line k brings, whole, and on the two parts of the way -/
def q0 (ls : List Ln) (k : Nat) (x y : Int) : Pp := ⟨nodeZ (lnAt ls k).fr, nodeZ (lnAt ls k).to, x, y⟩
def q1 (np : Nat) (ls : List Ln) (k : Nat) (x y : Int) : Pp := ⟨nodeZ (lnAt ls k).fr, np, x, y⟩
def q2 (np : Nat) (ls : List Ln) (k : Nat) (x y : Int) : Pp := ⟨np, nodeZ (lnAt ls k).to, x, y⟩
theorem Ra_o (hp : pl.length = np) (hl : ls.length = nl) (hk : k < nl) (S : Nat → Bool) :
    Ra (np + 1) (nl + 1) (oPl pl) (oLs np ls k) zw S = Ra np nl pl ls zw S - gp S (q0 ls k (lnAt ls k).w.lo (lnAt ls k).w.hi) + gp S (q1 np ls k (lnAt ls k).w.lo (lnAt ls k).w.hi) + gp S (q2 np ls k (lnAt ls k).w.lo (lnAt ls k).w.hi) := by
  have hn : nodeZ (np : Int) = np := by unfold nodeZ; split <;> omega
  have h1 : sumF (fun i => gp S (wPp zw i (lnAt (oLs np ls k) i)) + gp S (sPp (lnAt (oLs np ls k) i))) nl
      = sumF (fun i => gp S (wPp zw i (lnAt ls i)) + gp S (sPp (lnAt ls i))) nl + (gp S (q2 np ls k (lnAt ls k).w.lo (lnAt ls k).w.hi) - gp S (q0 ls k (lnAt ls k).w.lo (lnAt ls k).w.hi)) := by
    rw [sumF_but (g := fun i => gp S (wPp zw i (lnAt ls i)) + gp S (sPp (lnAt ls i))) hk (fun i hi hne => by rw [oLs_at hl hk i hi, if_neg hne])]
    rw [oLs_at hl hk k hk, if_pos rfl]
    have e1 : gp S (wPp zw k { lnAt ls k with fr := (np : Int) }) = gp S (q2 np ls k (lnAt ls k).w.lo (lnAt ls k).w.hi) := by simp [wPp, q2, zw, hn]
    have e2 : gp S (wPp zw k (lnAt ls k)) = gp S (q0 ls k (lnAt ls k).w.lo (lnAt ls k).w.hi) := by simp [wPp, q0, zw]
    have e3 : gp S (sPp { lnAt ls k with fr := (np : Int) }) = gp S (sPp (lnAt ls k)) := rfl
    rw [e1, e2, e3]
    omega
  have h2 : sumF (fun i => gp S (pPp i (spAt (oPl pl) i))) np = sumF (fun i => gp S (pPp i (spAt pl i))) np := sumF_congr fun i hi => by rw [oPl_at hp, if_pos hi]
  have h3 : gp S (pPp np (spAt (oPl pl) np)) = 0 := by rw [oPl_at hp, if_neg (by omega)]; exact gp_zero _ _ _
  have h4 : gp S (wPp zw nl (lnAt (oLs np ls k) nl)) = gp S (q1 np ls k (lnAt ls k).w.lo (lnAt ls k).w.hi) := by rw [oLs_new hl]; simp [wPp, q1, zw, hn]
  have h5 : gp S (sPp (lnAt (oLs np ls k) nl)) = 0 := by rw [oLs_new hl]; exact gp_zero _ _ _
  simp only [Ra, sumF]
  rw [h1, h2, h3, h4, h5]
  omega
end

section
variable {np nl k : Nat} {pl : List Sp} {ls : List Ln}
/-- THE CORE: with some pipes turned (M), and the line's own bounds, on either part of the way -/
theorem thru (h : OkBk np nl pl ls) (hb : InBk np nl ls) (hp : np < 5) (hk : k < nl) {M : (Nat → Bool) → Int} (hM : ∀ S T : Nat → Bool, (∀ n, n ≠ np → S n = T n) → M S = M T) {x1 y1 x2 y2 : Int} (h12 : x1 ≤ y2) (h21 : x2 ≤ y1) (hx H : Int) :
    (∀ S, 0 ≤ (Ra np nl pl ls zw S - gp S (q0 ls k (lnAt ls k).w.lo (lnAt ls k).w.hi) + gp S (q1 np ls k x1 y1) + gp S (q2 np ls k x2 y2) + M S) + gp S ⟨6, 5, hx, H⟩) ↔
    (∀ S, 0 ≤ (Ra np nl pl ls zw S - gp S (q0 ls k (lnAt ls k).w.lo (lnAt ls k).w.hi) + gp S (q0 ls k (max x1 x2) (min y1 y2)) + M S) + gp S ⟨6, 5, hx, H⟩) := by
  have nz : ∀ n : Int, (n = -1 ∨ (0 ≤ n ∧ n < np)) → ((nodeZ n).toNat : Int) = nodeZ n ∧ (nodeZ n).toNat ≠ np := fun n hn => by unfold nodeZ; split <;> omega
  obtain ⟨f1, f2⟩ := nz _ (hb.fr k hk)
  obtain ⟨t1, t2⟩ := nz _ (hb.to k hk)
  have hs := ser (G := fun S => Ra np nl pl ls zw S - gp S (q0 ls k (lnAt ls k).w.lo (lnAt ls k).w.hi) + M S + gp S ⟨6, 5, hx, H⟩) (N := np) (f := (nodeZ (lnAt ls k).fr).toNat) (t := (nodeZ (lnAt ls k).to).toNat) (x1 := x1) (y1 := y1) (x2 := x2) (y2 := y2)
    (fun S T hST => by
      have e1 := Ra_off (ws := zw) (pl := pl) hb hp hST
      have e2 := hM S T hST
      have e3 : gp S (q0 ls k (lnAt ls k).w.lo (lnAt ls k).w.hi) = gp T (q0 ls k (lnAt ls k).w.lo (lnAt ls k).w.hi) := gp_off hST f2 t2
      have e4 : gp S ⟨6, 5, hx, H⟩ = gp T ⟨6, 5, hx, H⟩ := gp_off hST (show (6 : Int).toNat ≠ np by simp; omega) (show (5 : Int).toNat ≠ np by simp; omega)
      simp only [e1, e2, e3, e4]) f2 t2 h12 h21
  rw [f1, t1] at hs
  refine Iff.trans (Iff.trans ?_ hs) ?_
  · exact ⟨fun g S => by have := g S; simp only [q1, q2] at this ⊢; omega, fun g S => by have := g S; simp only [q1, q2] at this ⊢; omega⟩
  · exact ⟨fun g S => by have := g S; simp only [q0] at this ⊢; omega, fun g S => by have := g S; simp only [q0] at this ⊢; omega⟩
end

end Go.Proofs.Ytoehifincdflhaa
