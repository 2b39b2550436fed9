/- The gaps of a book's net (layer 11), pipe by pipe; the heap's bound does not bind; two pipes in a row. -/
import Derived.Test.YtoehifincdflhaaEv11
import Derived.Test.YtoehifincdflhaaPr11
namespace Go.Proofs.Ytoehifincdflhaa
open Go.RowKit
open Go.Sort (grow)
set_option linter.unusedVariables false

def wPp (ws : Nat → Bool) (i : Nat) (l : Ln) : Pp := ⟨nodeZ l.fr, nodeZ l.to, bif ws i then l.s.hi else l.w.lo, bif ws i then 999 else l.w.hi⟩
def sPp (l : Ln) : Pp := ⟨nodeZ l.to, 6, l.s.lo, l.s.hi⟩
def pPp (j : Nat) (s : Sp) : Pp := ⟨(j : Int), 5, s.lo, s.hi⟩
def hPp (H : Int) : Pp := ⟨6, 5, 0, H⟩
theorem flLn_eq (ws : Nat → Bool) (i : Nat) (l : Ln) : flLn ws i l = [wPp ws i l, sPp l] := rfl
theorem gap_flTo (S : Nat → Bool) (ls : List Ln) (ws : Nat → Bool) (n : Nat) : gap S (flTo ls ws n) = sumF (fun i => gp S (wPp ws i (lnAt ls i)) + gp S (sPp (lnAt ls i))) n := by
  induction n with
  | zero => rfl
  | succ n ih => rw [flTo_succ, gap_append, ih]; simp only [flLn_eq, gap, sumF]; omega
theorem gap_flPl (S : Nat → Bool) (pl : List Sp) (n : Nat) : gap S (flPl pl n) = sumF (fun i => gp S (pPp i (spAt pl i))) n := by
  induction n with
  | zero => rfl
  | succ n ih => rw [flPl_succ, gap_append, ih]; simp only [gap, sumF, pPp]; omega
theorem gap_flow (S : Nat → Bool) (np nl : Nat) (pl : List Sp) (ls : List Ln) (ws : Nat → Bool) :
    gap S (flowL np nl pl ls ws) = sumF (fun i => gp S (wPp ws i (lnAt ls i)) + gp S (sPp (lnAt ls i))) nl + sumF (fun i => gp S (pPp i (spAt pl i))) np + gp S (hPp (nl * 999)) := by
  rw [flowL, gap_append, gap_append, gap_flTo, gap_flPl]; simp only [gap, hPp]; omega
theorem sumF_congr {f g : Nat → Int} {n : Nat} (h : ∀ i, i < n → f i = g i) : sumF f n = sumF g n := by
  induction n with
  | zero => rfl
  | succ n ih => simp only [sumF, ih fun i hi => h i (by omega), h n (by omega)]
theorem sumF_but {f g : Nat → Int} {n k : Nat} (hk : k < n) (h : ∀ i, i < n → i ≠ k → f i = g i) : sumF f n = sumF g n + (f k - g k) := by
  induction n with
  | zero => omega
  | succ n ih =>
    simp only [sumF]
    by_cases e : k = n
    · subst e
      rw [sumF_congr fun i hi => h i (by omega) (by omega)]; omega
    · rw [ih (by omega) fun i hi hne => h i (by omega) hne, h n (by omega) (fun e' => e e'.symm)]; omega
theorem sumF_le {f g : Nat → Int} {n : Nat} (h : ∀ i, i < n → f i ≤ g i) : sumF f n ≤ sumF g n := by
  induction n with
  | zero => simp [sumF]
  | succ n ih => have := ih fun i hi => h i (by omega); have := h n (by omega); simp only [sumF]; omega
theorem sumF_add (f g : Nat → Int) (n : Nat) : sumF (fun i => f i + g i) n = sumF f n + sumF g n := by
  induction n with
  | zero => rfl
  | succ n ih => simp only [sumF, ih]; omega
theorem sumF_const {n : Nat} {f : Nat → Int} {c : Int} (h : ∀ i, i < n → f i ≤ c) : sumF f n ≤ n * c := by
  induction n with
  | zero => simp [sumF]
  | succ n ih =>
    have := ih fun i hi => h i (by omega)
    have := h n (by omega)
    have e : ((n + 1 : Nat) : Int) * c = n * c + c := by rw [Int.natCast_add, Int.add_mul]; simp
    simp only [sumF, e]; omega

/-- the pipes by their numbers -/
theorem flTo_get (ls : List Ln) (ws : Nat → Bool) {n i : Nat} (h : i < n) : (flTo ls ws n)[2 * i]? = some (wPp ws i (lnAt ls i)) ∧ (flTo ls ws n)[2 * i + 1]? = some (sPp (lnAt ls i)) := by
  induction n with
  | zero => omega
  | succ n ih =>
    rw [flTo_succ]
    by_cases e : i = n
    · subst e
      have hl := flTo_len ls ws i
      rw [List.getElem?_append_right (by omega), List.getElem?_append_right (by omega), hl, flLn_eq]
      simp
    · have hl := flTo_len ls ws n
      rw [List.getElem?_append_left (by omega), List.getElem?_append_left (by omega)]
      exact ih (by omega)
theorem ppAt_some {l : List Pp} {i : Nat} {p : Pp} (h : l[i]? = some p) : ppAt l i = p := by
  unfold ppAt; rw [List.getD_eq_getElem?_getD, h]; rfl
section
variable {np nl : Nat} {pl : List Sp} {ls : List Ln} {ws : Nat → Bool}
theorem pp_w {i : Nat} (h : i < nl) : ppAt (flowL np nl pl ls ws) (2 * i) = wPp ws i (lnAt ls i) := by
  have hl := flTo_len ls ws nl
  refine ppAt_some ?_
  rw [flowL, List.append_assoc, List.getElem?_append_left (by omega)]
  exact (flTo_get ls ws h).1
theorem pp_s {i : Nat} (h : i < nl) : ppAt (flowL np nl pl ls ws) (2 * i + 1) = sPp (lnAt ls i) := by
  have hl := flTo_len ls ws nl
  refine ppAt_some ?_
  rw [flowL, List.append_assoc, List.getElem?_append_left (by omega)]
  exact (flTo_get ls ws h).2
theorem pp_p {j : Nat} (h : j < np) : ppAt (flowL np nl pl ls ws) (2 * nl + j) = pPp j (spAt pl j) := by
  have hl := flTo_len ls ws nl
  refine ppAt_some ?_
  rw [flowL, List.append_assoc, List.getElem?_append_right (by omega), hl, Nat.add_sub_cancel_left, List.getElem?_append_left (by simp [flPl]; omega)]
  simp [flPl, h, pPp]
theorem pp_h : ppAt (flowL np nl pl ls ws) (2 * nl + np) = hPp (nl * 999) := by
  have hl := flTo_len ls ws nl
  have hl2 : (flTo ls ws nl ++ flPl pl np).length = 2 * nl + np := by simp [flPl, hl]
  refine ppAt_some ?_
  rw [flowL, List.getElem?_append_right (by omega), hl2, Nat.sub_self]
  rfl
end

/-- the set with the scales' node besides -/
def w6 (S : Nat → Bool) : Nat → Bool := fun n => n == 6 || S n
theorem gp_w6 (S : Nat → Bool) (p : Pp) (h6 : p.fr.toNat ≠ 6) (hlh : p.lo ≤ p.hi) : gp (w6 S) p ≤ gp S p + (if p.to.toNat = 6 then (if p.hi < 0 then 0 else p.hi) else 0) := by
  unfold gp w6
  by_cases e : p.to.toNat = 6
  · rw [if_pos e, e]
    simp only [beq_self_eq_true, Bool.true_or, Bool.not_true, Bool.and_false]
    have : (p.fr.toNat == 6) = false := by simpa using h6
    rw [this]
    simp only [Bool.false_or, Bool.true_and]
    cases S p.fr.toNat <;> cases S 6 <;> simp <;> split <;> omega
  · rw [if_neg e]
    have h1 : (p.fr.toNat == 6) = false := by simpa using h6
    have h2 : (p.to.toNat == 6) = false := by simpa using e
    rw [h1, h2]
    simp
theorem nodeZ_cases (n : Int) (h : -1 ≤ n) (h5 : n < 5) : (nodeZ n).toNat = 5 ∨ ((nodeZ n).toNat < 5 ∧ 0 ≤ n ∧ (nodeZ n).toNat = n.toNat) := by
  unfold nodeZ; split <;> omega

/-- a node that no pipe of the book's net touches may be in a set or not -/
def AvoidsN (l : List Pp) (N : Nat) : Prop := ∀ p ∈ l, p.fr.toNat ≠ N ∧ p.to.toNat ≠ N
theorem gp_off {S T : Nat → Bool} {N : Nat} (h : ∀ n, n ≠ N → S n = T n) {p : Pp} (h1 : p.fr.toNat ≠ N) (h2 : p.to.toNat ≠ N) : gp S p = gp T p := by
  unfold gp; rw [h _ h1, h _ h2]

/-- two pipes in a row are as one with what both allow -/
theorem ser {G : (Nat → Bool) → Int} {N f t : Nat} {x1 y1 x2 y2 : Int} (hG : ∀ S T : Nat → Bool, (∀ n, n ≠ N → S n = T n) → G S = G T) (hf : f ≠ N) (ht : t ≠ N) (h12 : x1 ≤ y2) (h21 : x2 ≤ y1) :
    (∀ S, 0 ≤ G S + gp S ⟨f, N, x1, y1⟩ + gp S ⟨N, t, x2, y2⟩) ↔ ∀ S, 0 ≤ G S + gp S ⟨f, t, max x1 x2, min y1 y2⟩ := by
  constructor
  · intro h S
    have on := h fun n => if n = N then true else S n
    have off := h fun n => if n = N then false else S n
    have e1 := hG (fun n => if n = N then true else S n) S fun n hn => by simp [hn]
    have e2 := hG (fun n => if n = N then false else S n) S fun n hn => by simp [hn]
    rw [e1] at on
    rw [e2] at off
    simp only [gp, Int.toNat_natCast, hf, ht, if_false, if_true] at on off ⊢
    generalize S f = a at *
    generalize S t = b at *
    cases a <;> cases b <;> simp at on off ⊢ <;> omega
  · intro h S
    have h0 := h S
    simp only [gp, Int.toNat_natCast] at h0 ⊢
    generalize S f = a at *
    generalize S t = b at *
    generalize S N = c at *
    cases a <;> cases b <;> cases c <;> simp at h0 ⊢ <;> omega

end Go.Proofs.Ytoehifincdflhaa
