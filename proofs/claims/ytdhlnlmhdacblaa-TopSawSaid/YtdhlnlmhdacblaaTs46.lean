/- The way through a place (layer 11): the answers are the same. -/
import Derived.Test.YtdhlnlmhdacblaaTs45
namespace Go.Proofs.Ytdhlnlmhdacblaa
open Go.RowKit
open Go.Sort (grow)
set_option linter.unusedVariables false
set_option linter.unusedSimpArgs false

theorem low_eq {l m : List Pp} {i j : Nat} {L L' : Int} (h : IsLow l i L) (h' : IsLow m j L') (hlo : (ppAt l i).lo = (ppAt m j).lo)
    (hc : ∀ x, (ppAt l i).lo ≤ x → x ≤ (ppAt l i).hi ∨ x ≤ (ppAt m j).hi → (Can (withPp l i (ppAt l i).lo x) ↔ Can (withPp m j (ppAt l i).lo x))) : L = L' := by
  have a1 := h'.least L (by rw [← hlo]; exact h.lo) (by rw [← hlo]; exact (hc L h.lo (.inl h.hi)).1 h.can)
  have a2 := h.least L' (by rw [hlo]; exact h'.lo) ((hc L' (by rw [hlo]; exact h'.lo) (.inr h'.hi)).2 (by rw [hlo]; exact h'.can))
  omega
theorem high_eq {l m : List Pp} {i j : Nat} {L L' : Int} (h : IsHigh l i L) (h' : IsHigh m j L') (h1 : L ≤ (ppAt m j).hi) (h2 : L' ≤ (ppAt l i).hi)
    (hc : ∀ x, (ppAt l i).lo ≤ x ∨ (ppAt m j).lo ≤ x → x ≤ (ppAt l i).hi → x ≤ (ppAt m j).hi → (Can (withPp l i x (ppAt l i).hi) ↔ Can (withPp m j x (ppAt m j).hi))) : L = L' := by
  have a1 := h'.most L h1 ((hc L (.inl h.lo) h.hi h1).1 h.can)
  have a2 := h.most L' h2 ((hc L' (.inr h'.lo) h2 h'.hi).2 h'.can)
  omega
theorem can_set {l : List Pp} {i : Nat} (hi : i < l.length) (a b : Int) : Can (withPp l i a b) ↔ ∀ S, 0 ≤ gap S l - gp S (ppAt l i) + gp S { ppAt l i with lo := a, hi := b } := by
  unfold Can withPp
  exact ⟨fun h S => by rw [← gap_set S l i _ hi]; exact h S, fun h S => by rw [gap_set S l i _ hi]; exact h S⟩
section
variable {np nl k : Nat} {pl : List Sp} {ls : List Ln}
theorem q_w6 (h : OkBk np nl pl ls) (hp : np < 5) (S : Nat → Bool) (x y : Int) : gp (w6 S) (q0 ls k x y) = gp S (q0 ls k x y) ∧ gp (w6 S) (q1 np ls k x y) = gp S (q1 np ls k x y) ∧ gp (w6 S) (q2 np ls k x y) = gp S (q2 np ls k x y) := by
  obtain ⟨a1, a2, a3, a4, -⟩ := h.ln k
  exact ⟨gp_w6_eq (nodeZ_6 _ a1 a2) (nodeZ_6 _ a3 a4), gp_w6_eq (nodeZ_6 _ a1 a2) (by simp [q1]; omega), gp_w6_eq (by simp [q2]; omega) (nodeZ_6 _ a3 a4)⟩
/-- the core again, the heap's bound greater on the longer way -/
theorem thru2 (h : OkBk np nl pl ls) (hb : InBk np nl ls) (hp : np < 5) (hk : k < nl) {M : (Nat → Bool) → Int} (hM : ∀ S T : Nat → Bool, (∀ n, n ≠ np → S n = T n) → M S = M T) (hM6 : ∀ S, M (w6 S) = M S) {x1 y1 x2 y2 : Int} (h12 : x1 ≤ y2) (h21 : x2 ≤ y1) (hx : Int) :
    (∀ S, 0 ≤ (Ra np nl pl ls zw S - gp S (q0 ls k (lnAt ls k).w.lo (lnAt ls k).w.hi) + gp S (q1 np ls k x1 y1) + gp S (q2 np ls k x2 y2) + M S) + gp S ⟨6, 5, hx, ((nl + 1 : Nat) : Int) * 999⟩) ↔
    (∀ S, 0 ≤ (Ra np nl pl ls zw S - gp S (q0 ls k (lnAt ls k).w.lo (lnAt ls k).w.hi) + gp S (q0 ls k (max x1 x2) (min y1 y2)) + M S) + gp S ⟨6, 5, hx, (nl : Int) * 999⟩) := by
  refine (heap_free (B := nl * 999) (fun S => ?_) (Int.le_refl _) (by omega)).trans (thru h hb hp hk hM h12 h21 hx _)
  have e1 := Ra_w6 (ws := zw) h S
  have e2 := hM6 S
  have e3 := (q_w6 (k := k) h hp S (lnAt ls k).w.lo (lnAt ls k).w.hi).1
  have e4 := (q_w6 (k := k) h hp S x1 y1).2.1
  have e5 := (q_w6 (k := k) h hp S x2 y2).2.2
  rw [e2, e3, e4, e5]
  omega
structure ThruOk (np nl k : Nat) (pl : List Sp) (ls : List Ln) : Prop where
  ok : OkBk np nl pl ls
  inb : InBk np nl ls
  okO : OkBk (np + 1) (nl + 1) (oPl pl) (oLs np ls k)
  hp : np < 5
  hk : k < nl
  lp : pl.length = np
  ll : ls.length = nl
def fA (np nl : Nat) (pl : List Sp) (ls : List Ln) : List Pp := flowL np nl pl ls zw
def fO (np nl k : Nat) (pl : List Sp) (ls : List Ln) : List Pp := flowL (np + 1) (nl + 1) (oPl pl) (oLs np ls k) zw
theorem gap_fO (t : ThruOk np nl k pl ls) (S : Nat → Bool) : gap S (fO np nl k pl ls) = (Ra np nl pl ls zw S - gp S (q0 ls k (lnAt ls k).w.lo (lnAt ls k).w.hi) + gp S (q1 np ls k (lnAt ls k).w.lo (lnAt ls k).w.hi) + gp S (q2 np ls k (lnAt ls k).w.lo (lnAt ls k).w.hi)) + gp S ⟨6, 5, 0, ((nl + 1 : Nat) : Int) * 999⟩ := by
  rw [fO, gap_Ra, Ra_o t.lp t.ll t.hk]; rfl
theorem gap_fA (S : Nat → Bool) : gap S (fA np nl pl ls) = Ra np nl pl ls zw S + gp S ⟨6, 5, 0, (nl : Int) * 999⟩ := by rw [fA, gap_Ra]; rfl
theorem can_O (t : ThruOk np nl k pl ls) : Can (fO np nl k pl ls) ↔ Can (fA np nl pl ls) := by
  have h8 := (t.ok.ln k).2.2.2.2.2.2.2.1
  have := thru2 t.ok t.inb t.hp t.hk (M := fun _ => 0) (fun _ _ _ => rfl) (fun _ => rfl) (x1 := (lnAt ls k).w.lo) (y1 := (lnAt ls k).w.hi) (x2 := (lnAt ls k).w.lo) (y2 := (lnAt ls k).w.hi) h8 h8 0
  rw [Int.max_self, Int.min_self] at this
  unfold Can
  refine Iff.trans (Iff.trans ?_ this) ?_
  · exact ⟨fun g S => by have := g S; rw [gap_fO t] at this; omega, fun g S => by have := g S; rw [gap_fO t]; omega⟩
  · exact ⟨fun g S => by have := g S; rw [gap_fA]; omega, fun g S => by have := g S; rw [gap_fA] at this; omega⟩
theorem len_A : (fA np nl pl ls).length = 2 * nl + np + 1 := flow_len _ _ _ _ _
theorem len_O : (fO np nl k pl ls).length = 2 * (nl + 1) + (np + 1) + 1 := flow_len _ _ _ _ _
theorem pO_w (t : ThruOk np nl k pl ls) {i : Nat} (hi : i < nl) : ppAt (fO np nl k pl ls) (2 * i) = if i = k then q2 np ls k (lnAt ls k).w.lo (lnAt ls k).w.hi else wPp zw i (lnAt ls i) := by
  have hn : nodeZ (np : Int) = np := by unfold nodeZ; split <;> omega
  rw [fO, pp_w (by omega), oLs_at t.ll t.hk i hi]
  by_cases e : i = k
  · subst e; simp [wPp, q2, zw, hn]
  · simp [e]
theorem pO_n (t : ThruOk np nl k pl ls) : ppAt (fO np nl k pl ls) (2 * nl) = q1 np ls k (lnAt ls k).w.lo (lnAt ls k).w.hi := by
  have hn : nodeZ (np : Int) = np := by unfold nodeZ; split <;> omega
  rw [fO, pp_w (by omega), oLs_new t.ll]; simp [wPp, q1, zw, hn]
theorem pA_w {i : Nat} (hi : i < nl) : ppAt (fA np nl pl ls) (2 * i) = wPp zw i (lnAt ls i) := pp_w hi
theorem pA_k (hk : k < nl) : ppAt (fA np nl pl ls) (2 * k) = q0 ls k (lnAt ls k).w.lo (lnAt ls k).w.hi := by rw [pA_w hk]; simp [wPp, q0, zw]
theorem cA_k (t : ThruOk np nl k pl ls) (x y : Int) : Can (withPp (fA np nl pl ls) (2 * k) x y) ↔ ∀ S, 0 ≤ (Ra np nl pl ls zw S - gp S (q0 ls k (lnAt ls k).w.lo (lnAt ls k).w.hi) + gp S (q0 ls k x y) + 0) + gp S ⟨6, 5, 0, (nl : Int) * 999⟩ := by
  have hk := t.hk
  rw [can_set (by rw [len_A]; omega), pA_k t.hk]
  exact ⟨fun g S => by have := g S; rw [gap_fA] at this; simp only [q0] at this ⊢; omega, fun g S => by have := g S; rw [gap_fA]; simp only [q0] at this ⊢; omega⟩
/-- the line itself, and the first part of the way -/
theorem c_k (t : ThruOk np nl k pl ls) {x y : Int} (h1 : (lnAt ls k).w.lo ≤ x) (h2 : y ≤ (lnAt ls k).w.hi) (h3 : x ≤ (lnAt ls k).w.hi) (h4 : (lnAt ls k).w.lo ≤ y) :
    (Can (withPp (fO np nl k pl ls) (2 * k) x y) ↔ Can (withPp (fA np nl pl ls) (2 * k) x y)) ∧ (Can (withPp (fO np nl k pl ls) (2 * nl) x y) ↔ Can (withPp (fA np nl pl ls) (2 * k) x y)) := by
  have hk := t.hk
  have a := thru2 t.ok t.inb t.hp t.hk (M := fun _ => 0) (fun _ _ _ => rfl) (fun _ => rfl) (x1 := (lnAt ls k).w.lo) (y1 := (lnAt ls k).w.hi) (x2 := x) (y2 := y) h4 h3 0
  have b := thru2 t.ok t.inb t.hp t.hk (M := fun _ => 0) (fun _ _ _ => rfl) (fun _ => rfl) (x1 := x) (y1 := y) (x2 := (lnAt ls k).w.lo) (y2 := (lnAt ls k).w.hi) h3 h4 0
  rw [show max (lnAt ls k).w.lo x = x by omega, show min (lnAt ls k).w.hi y = y by omega] at a
  rw [show max x (lnAt ls k).w.lo = x by omega, show min y (lnAt ls k).w.hi = y by omega] at b
  rw [cA_k t]
  constructor
  · refine Iff.trans ?_ a
    rw [can_set (by rw [len_O]; omega), pO_w t t.hk, if_pos rfl]
    exact ⟨fun g S => by have := g S; rw [gap_fO t] at this; simp only [q2] at this ⊢; omega, fun g S => by have := g S; rw [gap_fO t]; simp only [q2] at this ⊢; omega⟩
  · refine Iff.trans ?_ b
    rw [can_set (by rw [len_O]; omega), pO_n t]
    exact ⟨fun g S => by have := g S; rw [gap_fO t] at this; simp only [q1] at this ⊢; omega, fun g S => by have := g S; rw [gap_fO t]; simp only [q1] at this ⊢; omega⟩
/-- another line -/
theorem c_i (t : ThruOk np nl k pl ls) {i : Nat} (hi : i < nl) (hne : i ≠ k) (x y : Int) : Can (withPp (fO np nl k pl ls) (2 * i) x y) ↔ Can (withPp (fA np nl pl ls) (2 * i) x y) := by
  have hp := t.hp
  have nz : ∀ n : Int, (n = -1 ∨ (0 ≤ n ∧ n < np)) → (nodeZ n).toNat ≠ np ∧ (nodeZ n).toNat ≠ 6 := fun n hn => by unfold nodeZ; split <;> omega
  obtain ⟨f1, f2⟩ := nz _ (t.inb.fr i hi)
  obtain ⟨t1, t2⟩ := nz _ (t.inb.to i hi)
  have h8 := (t.ok.ln k).2.2.2.2.2.2.2.1
  have a := thru2 t.ok t.inb t.hp t.hk (M := fun S => gp S { wPp zw i (lnAt ls i) with lo := x, hi := y } - gp S (wPp zw i (lnAt ls i)))
    (fun S T hST => by rw [gp_off (p := { wPp zw i (lnAt ls i) with lo := x, hi := y }) hST f1 t1, gp_off (p := wPp zw i (lnAt ls i)) hST f1 t1])
    (fun S => by rw [gp_w6_eq (p := { wPp zw i (lnAt ls i) with lo := x, hi := y }) f2 t2, gp_w6_eq (p := wPp zw i (lnAt ls i)) f2 t2]) (x1 := (lnAt ls k).w.lo) (y1 := (lnAt ls k).w.hi) (x2 := (lnAt ls k).w.lo) (y2 := (lnAt ls k).w.hi) h8 h8 0
  rw [Int.max_self, Int.min_self] at a
  rw [can_set (by rw [len_O]; omega), can_set (by rw [len_A]; omega), pO_w t hi, if_neg hne, pA_w hi]
  refine Iff.trans (Iff.trans ?_ a) ?_
  · exact ⟨fun g S => by have := g S; rw [gap_fO t] at this; omega, fun g S => by have := g S; rw [gap_fO t]; omega⟩
  · exact ⟨fun g S => by have := g S; rw [gap_fA]; omega, fun g S => by have := g S; rw [gap_fA] at this; omega⟩
theorem pO_h : ppAt (fO np nl k pl ls) (2 * (nl + 1) + (np + 1)) = ⟨6, 5, 0, ((nl + 1 : Nat) : Int) * 999⟩ := pp_h
theorem pA_h : ppAt (fA np nl pl ls) (2 * nl + np) = ⟨6, 5, 0, (nl : Int) * 999⟩ := pp_h
/-- the heap -/
theorem c_h (t : ThruOk np nl k pl ls) (x y : Int) : Can (withPp (fO np nl k pl ls) (2 * (nl + 1) + (np + 1)) x y) ↔ Can (withPp (fA np nl pl ls) (2 * nl + np) x y) := by
  have h8 := (t.ok.ln k).2.2.2.2.2.2.2.1
  have a := thru t.ok t.inb t.hp t.hk (M := fun _ => 0) (fun _ _ _ => rfl) (x1 := (lnAt ls k).w.lo) (y1 := (lnAt ls k).w.hi) (x2 := (lnAt ls k).w.lo) (y2 := (lnAt ls k).w.hi) h8 h8 x y
  rw [Int.max_self, Int.min_self] at a
  rw [can_set (by rw [len_O]; omega), can_set (by rw [len_A]; omega), pO_h, pA_h]
  refine Iff.trans (Iff.trans ?_ a) ?_
  · exact ⟨fun g S => by have := g S; rw [gap_fO t] at this; dsimp only at this ⊢; omega, fun g S => by have := g S; rw [gap_fO t]; dsimp only at this ⊢; omega⟩
  · exact ⟨fun g S => by have := g S; rw [gap_fA]; dsimp only at this ⊢; omega, fun g S => by have := g S; rw [gap_fA] at this; dsimp only at this ⊢; omega⟩
theorem c_hh (t : ThruOk np nl k pl ls) (x : Int) : Can (withPp (fO np nl k pl ls) (2 * (nl + 1) + (np + 1)) x (((nl + 1 : Nat) : Int) * 999)) ↔ Can (withPp (fA np nl pl ls) (2 * nl + np) x ((nl : Int) * 999)) := by
  have h8 := (t.ok.ln k).2.2.2.2.2.2.2.1
  have a := thru2 t.ok t.inb t.hp t.hk (M := fun _ => 0) (fun _ _ _ => rfl) (fun _ => rfl) (x1 := (lnAt ls k).w.lo) (y1 := (lnAt ls k).w.hi) (x2 := (lnAt ls k).w.lo) (y2 := (lnAt ls k).w.hi) h8 h8 x
  rw [Int.max_self, Int.min_self] at a
  rw [can_set (by rw [len_O]; omega), can_set (by rw [len_A]; omega), pO_h, pA_h]
  refine Iff.trans (Iff.trans ?_ a) ?_
  · exact ⟨fun g S => by have := g S; rw [gap_fO t] at this; dsimp only at this ⊢; omega, fun g S => by have := g S; rw [gap_fO t]; dsimp only at this ⊢; omega⟩
  · exact ⟨fun g S => by have := g S; rw [gap_fA]; dsimp only at this ⊢; omega, fun g S => by have := g S; rw [gap_fA] at this; dsimp only at this ⊢; omega⟩
/-- the heap carries no more than all scales -/
theorem heap_most (h : OkBk np nl pl ls) {ws : Nat → Bool} {x H : Int} (hc : Can (withPp (flowL np nl pl ls ws) (2 * nl + np) x H)) : x ≤ nl * 999 := by
  rw [can_set (by rw [flow_len]; omega), pp_h] at hc
  have h0 := hc fun n => n == 6
  rw [gap_Ra] at h0
  have e1 : gp (fun n => n == 6) { hPp ((nl : Int) * 999) with lo := x, hi := H } = -x := by
    have h6 : (6 : Int).toNat = 6 := rfl
    have h5 : (5 : Int).toNat = 5 := rfl
    simp [gp, hPp, h6, h5]
  have hp := h.hp
  have e2 : Ra np nl pl ls ws (fun n => n == 6) ≤ nl * 999 := by
    have a1 : sumF (fun i => gp (fun n => n == 6) (wPp ws i (lnAt ls i)) + gp (fun n => n == 6) (sPp (lnAt ls i))) nl ≤ nl * 999 := by
      refine sumF_const fun i _ => ?_
      obtain ⟨a1, a2, a3, a4, a5, a6, a7, a8, a9⟩ := h.ln i
      have n1 : ((nodeZ (lnAt ls i).fr).toNat == 6) = false := by simpa using nodeZ_6 _ a1 a2
      have n2 : ((nodeZ (lnAt ls i).to).toNat == 6) = false := by simpa using nodeZ_6 _ a3 a4
      have h6 : (6 : Int).toNat = 6 := rfl
      simp [gp, wPp, sPp, n1, n2, h6]
      omega
    have a2 : sumF (fun i => gp (fun n => n == 6) (pPp i (spAt pl i))) np ≤ np * 0 := by
      refine sumF_const fun i hi => ?_
      have n1 : (i == 6) = false := by simp; omega
      have h5 : (5 : Int).toNat = 5 := rfl
      simp [gp, pPp, n1, h5]
    unfold Ra
    omega
  rw [e1] at h0
  omega
theorem ends_k (t : ThruOk np nl k pl ls) (hc : Can (fA np nl pl ls)) :
    (∀ i, i < nl → endsP (2 * (nl + 1) + (np + 1) + 1) (fO np nl k pl ls) (2 * i) = endsP (2 * nl + np + 1) (fA np nl pl ls) (2 * i)) ∧
    endsP (2 * (nl + 1) + (np + 1) + 1) (fO np nl k pl ls) (2 * nl) = endsP (2 * nl + np + 1) (fA np nl pl ls) (2 * k) ∧
    endsP (2 * (nl + 1) + (np + 1) + 1) (fO np nl k pl ls) (2 * (nl + 1) + (np + 1)) = endsP (2 * nl + np + 1) (fA np nl pl ls) (2 * nl + np) := by
  have hk := t.hk
  have hcO := (can_O t).2 hc
  have nA := flow_nodes (ws := zw) t.ok
  have nO := flow_nodes (ws := zw) t.okO
  have lA := flow_lohi (ws := zw) t.ok
  have lO := flow_lohi (ws := zw) t.okO
  have LA := fun i (h : i < 2 * nl + np + 1) => endsP_low (l := fA np nl pl ls) (i := i) (by rw [len_A]; exact h) nA lA hc
  have HA := fun i (h : i < 2 * nl + np + 1) => endsP_high (l := fA np nl pl ls) (i := i) (by rw [len_A]; exact h) nA lA hc
  have LO := fun i (h : i < 2 * (nl + 1) + (np + 1) + 1) => endsP_low (l := fO np nl k pl ls) (i := i) (by rw [len_O]; exact h) nO lO hcO
  have HO := fun i (h : i < 2 * (nl + 1) + (np + 1) + 1) => endsP_high (l := fO np nl k pl ls) (i := i) (by rw [len_O]; exact h) nO lO hcO
  rw [len_A] at LA HA
  rw [len_O] at LO HO
  have spE_q11 : ∀ {a b : Sp}, a.lo = b.lo → a.hi = b.hi → a = b := by
    intro a b h1 h2; cases a; cases b; simp at h1 h2; simp [h1, h2]
  refine ⟨fun i hi => ?_, ?_, ?_⟩
  · by_cases e : i = k
    · subst e
      have p1 := pO_w t hi
      rw [if_pos rfl] at p1
      have p2 := pA_k (np := np) (pl := pl) (ls := ls) hi
      have lo1 : (ppAt (fO np nl i pl ls) (2 * i)).lo = (lnAt ls i).w.lo := by rw [p1]; rfl
      have hi1 : (ppAt (fO np nl i pl ls) (2 * i)).hi = (lnAt ls i).w.hi := by rw [p1]; rfl
      have lo2 : (ppAt (fA np nl pl ls) (2 * i)).lo = (lnAt ls i).w.lo := by rw [p2]; rfl
      have hi2 : (ppAt (fA np nl pl ls) (2 * i)).hi = (lnAt ls i).w.hi := by rw [p2]; rfl
      have h8 := (t.ok.ln i).2.2.2.2.2.2.2.1
      refine spE_q11 (low_eq (LO _ (by omega)) (LA _ (by omega)) (by rw [lo1, lo2]) fun x hx1 hx2 => ?_) (high_eq (HO _ (by omega)) (HA _ (by omega)) ?_ ?_ fun x hx1 hx2 hx3 => ?_)
      · rw [lo1] at hx1 ⊢
        rw [hi1, hi2] at hx2
        exact (c_k t (Int.le_refl _) (by omega) h8 hx1).1
      · rw [hi2, ← hi1]; exact (HO _ (by omega)).hi
      · rw [hi1, ← hi2]; exact (HA _ (by omega)).hi
      · rw [lo1, lo2] at hx1
        rw [hi1] at hx2
        rw [hi1, hi2]
        exact (c_k t (by omega) (Int.le_refl _) hx2 h8).1
    · have p1 := pO_w t hi
      rw [if_neg e] at p1
      have p2 := pA_w (np := np) (pl := pl) (ls := ls) hi
      refine spE_q11 (low_eq (LO _ (by omega)) (LA _ (by omega)) (by rw [p1, p2]) fun x hx1 hx2 => c_i t hi e _ _) (high_eq (HO _ (by omega)) (HA _ (by omega)) ?_ ?_ fun x hx1 hx2 hx3 => ?_)
      · rw [p2, ← p1]; exact (HO _ (by omega)).hi
      · rw [p1, ← p2]; exact (HA _ (by omega)).hi
      · rw [p1, p2]; exact c_i t hi e _ _
  · have p1 := pO_n t
    have p2 := pA_k (np := np) (pl := pl) (ls := ls) hk
    have lo1 : (ppAt (fO np nl k pl ls) (2 * nl)).lo = (lnAt ls k).w.lo := by rw [p1]; rfl
    have hi1 : (ppAt (fO np nl k pl ls) (2 * nl)).hi = (lnAt ls k).w.hi := by rw [p1]; rfl
    have lo2 : (ppAt (fA np nl pl ls) (2 * k)).lo = (lnAt ls k).w.lo := by rw [p2]; rfl
    have hi2 : (ppAt (fA np nl pl ls) (2 * k)).hi = (lnAt ls k).w.hi := by rw [p2]; rfl
    have h8 := (t.ok.ln k).2.2.2.2.2.2.2.1
    refine spE_q11 (low_eq (LO _ (by omega)) (LA _ (by omega)) (by rw [lo1, lo2]) fun x hx1 hx2 => ?_) (high_eq (HO _ (by omega)) (HA _ (by omega)) ?_ ?_ fun x hx1 hx2 hx3 => ?_)
    · rw [lo1] at hx1 ⊢
      rw [hi1, hi2] at hx2
      exact (c_k t (Int.le_refl _) (by omega) h8 hx1).2
    · rw [hi2, ← hi1]; exact (HO _ (by omega)).hi
    · rw [hi1, ← hi2]; exact (HA _ (by omega)).hi
    · rw [lo1, lo2] at hx1
      rw [hi1] at hx2
      rw [hi1, hi2]
      exact (c_k t (by omega) (Int.le_refl _) hx2 h8).2
  · have p1 := pO_h (np := np) (nl := nl) (k := k) (pl := pl) (ls := ls)
    have p2 := pA_h (np := np) (nl := nl) (pl := pl) (ls := ls)
    refine spE_q11 (low_eq (LO _ (by omega)) (LA _ (by omega)) (by rw [p1, p2]) fun x hx1 hx2 => c_h t _ _) (high_eq (HO _ (by omega)) (HA _ (by omega)) ?_ ?_ fun x hx1 hx2 hx3 => ?_)
    · have hcn := (HO (2 * (nl + 1) + (np + 1)) (by omega)).can
      rw [p1] at hcn
      rw [p2]
      exact heap_most t.ok ((c_hh t _).1 hcn)
    · have := (HA (2 * nl + np) (by omega)).hi
      rw [p2] at this
      rw [p1]
      have h9 : (nl : Int) * 999 ≤ ((nl + 1 : Nat) : Int) * 999 := by omega
      exact Int.le_trans this h9
    · rw [p1, p2]; exact c_hh t _
end

end Go.Proofs.Ytdhlnlmhdacblaa
