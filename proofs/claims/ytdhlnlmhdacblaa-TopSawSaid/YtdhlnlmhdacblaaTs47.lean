/- The way through a place (layer 11): the answers are the same; An account as a flow through a book's net (layer 11), in plain Lean; The way through a place (layer 11): the answers of the program for both books. -/
import Derived.Test.YtdhlnlmhdacblaaTs42
namespace Go.Proofs.Ytdhlnlmhdacblaa
open Go.RowKit
open Go.Sort (grow)
set_option linter.unusedVariables false
set_option linter.unusedSimpArgs false

theorem low_eq {l m : List Pp} {i j : Nat} {L L' : Int} (h : IsLow l i L) (h' : IsLow m j L') (hlo : (ppAt l i).lo = (ppAt m j).lo)
    (hc : ∀ x, (ppAt l i).lo ≤ x → x ≤ (ppAt l i).hi ∨ x ≤ (ppAt m j).hi → (Can (withPp l i (ppAt l i).lo x) ↔ Can (withPp m j (ppAt l i).lo x))) : L = L' := by
  have a1 := h'.least L (by rw [← hlo]; exact h.lo) (by rw [← hlo]; exact (hc L h.lo (.inl h.hi)).1 h.can)
  have a2 := h.least L' (by rw [hlo]; exact h'.lo) ((hc L' (by rw [hlo]; exact h'.lo) (.inr h'.hi)).2 (by rw [hlo]; exact h'.can))
  omega
theorem high_eq {l m : List Pp} {i j : Nat} {L L' : Int} (h : IsHigh l i L) (h' : IsHigh m j L') (h1 : L ≤ (ppAt m j).hi) (h2 : L' ≤ (ppAt l i).hi)
    (hc : ∀ x, (ppAt l i).lo ≤ x ∨ (ppAt m j).lo ≤ x → x ≤ (ppAt l i).hi → x ≤ (ppAt m j).hi → (Can (withPp l i x (ppAt l i).hi) ↔ Can (withPp m j x (ppAt m j).hi))) : L = L' := by
  have a1 := h'.most L h1 ((hc L (.inl h.lo) h.hi h1).1 h.can)
  have a2 := h.most L' h2 ((hc L' (.inr h'.lo) h2 h'.hi).2 h'.can)
  omega
theorem can_set {l : List Pp} {i : Nat} (hi : i < l.length) (a b : Int) : Can (withPp l i a b) ↔ ∀ S, 0 ≤ gap S l - gp S (ppAt l i) + gp S { ppAt l i with lo := a, hi := b } := by
  unfold Can withPp
  exact ⟨fun h S => by rw [← gap_set S l i _ hi]; exact h S, fun h S => by rw [gap_set S l i _ hi]; exact h S⟩
section
variable {np nl k : Nat} {pl : List Sp} {ls : List Ln}
theorem q_w6 (h : OkBk np nl pl ls) (hp : np < 5) (S : Nat → Bool) (x y : Int) : gp (w6 S) (q0 ls k x y) = gp S (q0 ls k x y) ∧ gp (w6 S) (q1 np ls k x y) = gp S (q1 np ls k x y) ∧ gp (w6 S) (q2 np ls k x y) = gp S (q2 np ls k x y) := by
  obtain ⟨a1, a2, a3, a4, -⟩ := h.ln k
  exact ⟨gp_w6_eq (nodeZ_6 _ a1 a2) (nodeZ_6 _ a3 a4), gp_w6_eq (nodeZ_6 _ a1 a2) (by simp [q1]; omega), gp_w6_eq (by simp [q2]; omega) (nodeZ_6 _ a3 a4)⟩
/-- the core again, the heap's bound greater on the longer way -/
theorem thru2 (h : OkBk np nl pl ls) (hb : InBk np nl ls) (hp : np < 5) (hk : k < nl) {M : (Nat → Bool) → Int} (hM : ∀ S T : Nat → Bool, (∀ n, n ≠ np → S n = T n) → M S = M T) (hM6 : ∀ S, M (w6 S) = M S) {x1 y1 x2 y2 : Int} (h12 : x1 ≤ y2) (h21 : x2 ≤ y1) (hx : Int) :
    (∀ S, 0 ≤ (Ra np nl pl ls zw S - gp S (q0 ls k (lnAt ls k).w.lo (lnAt ls k).w.hi) + gp S (q1 np ls k x1 y1) + gp S (q2 np ls k x2 y2) + M S) + gp S ⟨6, 5, hx, ((nl + 1 : Nat) : Int) * 999⟩) ↔
    (∀ S, 0 ≤ (Ra np nl pl ls zw S - gp S (q0 ls k (lnAt ls k).w.lo (lnAt ls k).w.hi) + gp S (q0 ls k (max x1 x2) (min y1 y2)) + M S) + gp S ⟨6, 5, hx, (nl : Int) * 999⟩) := by
  refine (heap_free (B := nl * 999) (fun S => ?_) (Int.le_refl _) (by omega)).trans (thru h hb hp hk hM h12 h21 hx _)
  have e1 := Ra_w6 (ws := zw) h S
  have e2 := hM6 S
  have e3 := (q_w6 (k := k) h hp S (lnAt ls k).w.lo (lnAt ls k).w.hi).1
  have e4 := (q_w6 (k := k) h hp S x1 y1).2.1
  have e5 := (q_w6 (k := k) h hp S x2 y2).2.2
  rw [e2, e3, e4, e5]
  omega
structure ThruOk (np nl k : Nat) (pl : List Sp) (ls : List Ln) : Prop where
  ok : OkBk np nl pl ls
  inb : InBk np nl ls
  okO : OkBk (np + 1) (nl + 1) (oPl pl) (oLs np ls k)
  hp : np < 5
  hk : k < nl
  lp : pl.length = np
  ll : ls.length = nl
def fA (np nl : Nat) (pl : List Sp) (ls : List Ln) : List Pp := flowL np nl pl ls zw
def fO (np nl k : Nat) (pl : List Sp) (ls : List Ln) : List Pp := flowL (np + 1) (nl + 1) (oPl pl) (oLs np ls k) zw
theorem gap_fO (t : ThruOk np nl k pl ls) (S : Nat → Bool) : gap S (fO np nl k pl ls) = (Ra np nl pl ls zw S - gp S (q0 ls k (lnAt ls k).w.lo (lnAt ls k).w.hi) + gp S (q1 np ls k (lnAt ls k).w.lo (lnAt ls k).w.hi) + gp S (q2 np ls k (lnAt ls k).w.lo (lnAt ls k).w.hi)) + gp S ⟨6, 5, 0, ((nl + 1 : Nat) : Int) * 999⟩ := by
  rw [fO, gap_Ra, Ra_o t.lp t.ll t.hk]; rfl
theorem gap_fA (S : Nat → Bool) : gap S (fA np nl pl ls) = Ra np nl pl ls zw S + gp S ⟨6, 5, 0, (nl : Int) * 999⟩ := by rw [fA, gap_Ra]; rfl
theorem can_O (t : ThruOk np nl k pl ls) : Can (fO np nl k pl ls) ↔ Can (fA np nl pl ls) := by
  have h8 := (t.ok.ln k).2.2.2.2.2.2.2.1
  have := thru2 t.ok t.inb t.hp t.hk (M := fun _ => 0) (fun _ _ _ => rfl) (fun _ => rfl) (x1 := (lnAt ls k).w.lo) (y1 := (lnAt ls k).w.hi) (x2 := (lnAt ls k).w.lo) (y2 := (lnAt ls k).w.hi) h8 h8 0
  rw [Int.max_self, Int.min_self] at this
  unfold Can
  refine Iff.trans (Iff.trans ?_ this) ?_
  · exact ⟨fun g S => by have := g S; rw [gap_fO t] at this; omega, fun g S => by have := g S; rw [gap_fO t]; omega⟩
  · exact ⟨fun g S => by have := g S; rw [gap_fA]; omega, fun g S => by have := g S; rw [gap_fA] at this; omega⟩
theorem len_A : (fA np nl pl ls).length = 2 * nl + np + 1 := flow_len _ _ _ _ _
theorem len_O : (fO np nl k pl ls).length = 2 * (nl + 1) + (np + 1) + 1 := flow_len _ _ _ _ _
theorem pO_w (t : ThruOk np nl k pl ls) {i : Nat} (hi : i < nl) : ppAt (fO np nl k pl ls) (2 * i) = if i = k then q2 np ls k (lnAt ls k).w.lo (lnAt ls k).w.hi else wPp zw i (lnAt ls i) := by
  have hn : nodeZ (np : Int) = np := by unfold nodeZ; split <;> omega
  rw [fO, pp_w (by omega), oLs_at t.ll t.hk i hi]
  by_cases e : i = k
  · subst e; simp [wPp, q2, zw, hn]
  · simp [e]
theorem pO_n (t : ThruOk np nl k pl ls) : ppAt (fO np nl k pl ls) (2 * nl) = q1 np ls k (lnAt ls k).w.lo (lnAt ls k).w.hi := by
  have hn : nodeZ (np : Int) = np := by unfold nodeZ; split <;> omega
  rw [fO, pp_w (by omega), oLs_new t.ll]; simp [wPp, q1, zw, hn]
theorem pA_w {i : Nat} (hi : i < nl) : ppAt (fA np nl pl ls) (2 * i) = wPp zw i (lnAt ls i) := pp_w hi
theorem pA_k (hk : k < nl) : ppAt (fA np nl pl ls) (2 * k) = q0 ls k (lnAt ls k).w.lo (lnAt ls k).w.hi := by rw [pA_w hk]; simp [wPp, q0, zw]
theorem cA_k (t : ThruOk np nl k pl ls) (x y : Int) : Can (withPp (fA np nl pl ls) (2 * k) x y) ↔ ∀ S, 0 ≤ (Ra np nl pl ls zw S - gp S (q0 ls k (lnAt ls k).w.lo (lnAt ls k).w.hi) + gp S (q0 ls k x y) + 0) + gp S ⟨6, 5, 0, (nl : Int) * 999⟩ := by
  have hk := t.hk
  rw [can_set (by rw [len_A]; omega), pA_k t.hk]
  exact ⟨fun g S => by have := g S; rw [gap_fA] at this; simp only [q0] at this ⊢; omega, fun g S => by have := g S; rw [gap_fA]; simp only [q0] at this ⊢; omega⟩
/-- the line itself, and the first part of the way -/
theorem c_k (t : ThruOk np nl k pl ls) {x y : Int} (h1 : (lnAt ls k).w.lo ≤ x) (h2 : y ≤ (lnAt ls k).w.hi) (h3 : x ≤ (lnAt ls k).w.hi) (h4 : (lnAt ls k).w.lo ≤ y) :
    (Can (withPp (fO np nl k pl ls) (2 * k) x y) ↔ Can (withPp (fA np nl pl ls) (2 * k) x y)) ∧ (Can (withPp (fO np nl k pl ls) (2 * nl) x y) ↔ Can (withPp (fA np nl pl ls) (2 * k) x y)) := by
  have hk := t.hk
  have a := thru2 t.ok t.inb t.hp t.hk (M := fun _ => 0) (fun _ _ _ => rfl) (fun _ => rfl) (x1 := (lnAt ls k).w.lo) (y1 := (lnAt ls k).w.hi) (x2 := x) (y2 := y) h4 h3 0
  have b := thru2 t.ok t.inb t.hp t.hk (M := fun _ => 0) (fun _ _ _ => rfl) (fun _ => rfl) (x1 := x) (y1 := y) (x2 := (lnAt ls k).w.lo) (y2 := (lnAt ls k).w.hi) h3 h4 0
  rw [show max (lnAt ls k).w.lo x = x by omega, show min (lnAt ls k).w.hi y = y by omega] at a
  rw [show max x (lnAt ls k).w.lo = x by omega, show min y (lnAt ls k).w.hi = y by omega] at b
  rw [cA_k t]
  constructor
  · refine Iff.trans ?_ a
    rw [can_set (by rw [len_O]; omega), pO_w t t.hk, if_pos rfl]
    exact ⟨fun g S => by have := g S; rw [gap_fO t] at this; simp only [q2] at this ⊢; omega, fun g S => by have := g S; rw [gap_fO t]; simp only [q2] at this ⊢; omega⟩
  · refine Iff.trans ?_ b
    rw [can_set (by rw [len_O]; omega), pO_n t]
    exact ⟨fun g S => by have := g S; rw [gap_fO t] at this; simp only [q1] at this ⊢; omega, fun g S => by have := g S; rw [gap_fO t]; simp only [q1] at this ⊢; omega⟩
/-- another line -/
theorem c_i (t : ThruOk np nl k pl ls) {i : Nat} (hi : i < nl) (hne : i ≠ k) (x y : Int) : Can (withPp (fO np nl k pl ls) (2 * i) x y) ↔ Can (withPp (fA np nl pl ls) (2 * i) x y) := by
  have hp := t.hp
  have nz : ∀ n : Int, (n = -1 ∨ (0 ≤ n ∧ n < np)) → (nodeZ n).toNat ≠ np ∧ (nodeZ n).toNat ≠ 6 := fun n hn => by unfold nodeZ; split <;> omega
  obtain ⟨f1, f2⟩ := nz _ (t.inb.fr i hi)
  obtain ⟨t1, t2⟩ := nz _ (t.inb.to i hi)
  have h8 := (t.ok.ln k).2.2.2.2.2.2.2.1
  have a := thru2 t.ok t.inb t.hp t.hk (M := fun S => gp S { wPp zw i (lnAt ls i) with lo := x, hi := y } - gp S (wPp zw i (lnAt ls i)))
    (fun S T hST => by rw [gp_off (p := { wPp zw i (lnAt ls i) with lo := x, hi := y }) hST f1 t1, gp_off (p := wPp zw i (lnAt ls i)) hST f1 t1])
    (fun S => by rw [gp_w6_eq (p := { wPp zw i (lnAt ls i) with lo := x, hi := y }) f2 t2, gp_w6_eq (p := wPp zw i (lnAt ls i)) f2 t2]) (x1 := (lnAt ls k).w.lo) (y1 := (lnAt ls k).w.hi) (x2 := (lnAt ls k).w.lo) (y2 := (lnAt ls k).w.hi) h8 h8 0
  rw [Int.max_self, Int.min_self] at a
  rw [can_set (by rw [len_O]; omega), can_set (by rw [len_A]; omega), pO_w t hi, if_neg hne, pA_w hi]
  refine Iff.trans (Iff.trans ?_ a) ?_
  · exact ⟨fun g S => by have := g S; rw [gap_fO t] at this; omega, fun g S => by have := g S; rw [gap_fO t]; omega⟩
  · exact ⟨fun g S => by have := g S; rw [gap_fA]; omega, fun g S => by have := g S; rw [gap_fA] at this; omega⟩
theorem pO_h : ppAt (fO np nl k pl ls) (2 * (nl + 1) + (np + 1)) = ⟨6, 5, 0, ((nl + 1 : Nat) : Int) * 999⟩ := pp_h
theorem pA_h : ppAt (fA np nl pl ls) (2 * nl + np) = ⟨6, 5, 0, (nl : Int) * 999⟩ := pp_h
/-- the heap -/
theorem c_h (t : ThruOk np nl k pl ls) (x y : Int) : Can (withPp (fO np nl k pl ls) (2 * (nl + 1) + (np + 1)) x y) ↔ Can (withPp (fA np nl pl ls) (2 * nl + np) x y) := by
  have h8 := (t.ok.ln k).2.2.2.2.2.2.2.1
  have a := thru t.ok t.inb t.hp t.hk (M := fun _ => 0) (fun _ _ _ => rfl) (x1 := (lnAt ls k).w.lo) (y1 := (lnAt ls k).w.hi) (x2 := (lnAt ls k).w.lo) (y2 := (lnAt ls k).w.hi) h8 h8 x y
  rw [Int.max_self, Int.min_self] at a
  rw [can_set (by rw [len_O]; omega), can_set (by rw [len_A]; omega), pO_h, pA_h]
  refine Iff.trans (Iff.trans ?_ a) ?_
  · exact ⟨fun g S => by have := g S; rw [gap_fO t] at this; dsimp only at this ⊢; omega, fun g S => by have := g S; rw [gap_fO t]; dsimp only at this ⊢; omega⟩
  · exact ⟨fun g S => by have := g S; rw [gap_fA]; dsimp only at this ⊢; omega, fun g S => by have := g S; rw [gap_fA] at this; dsimp only at this ⊢; omega⟩
theorem c_hh (t : ThruOk np nl k pl ls) (x : Int) : Can (withPp (fO np nl k pl ls) (2 * (nl + 1) + (np + 1)) x (((nl + 1 : Nat) : Int) * 999)) ↔ Can (withPp (fA np nl pl ls) (2 * nl + np) x ((nl : Int) * 999)) := by
  have h8 := (t.ok.ln k).2.2.2.2.2.2.2.1
  have a := thru2 t.ok t.inb t.hp t.hk (M := fun _ => 0) (fun _ _ _ => rfl) (fun _ => rfl) (x1 := (lnAt ls k).w.lo) (y1 := (lnAt ls k).w.hi) (x2 := (lnAt ls k).w.lo) (y2 := (lnAt ls k).w.hi) h8 h8 x
  rw [Int.max_self, Int.min_self] at a
  rw [can_set (by rw [len_O]; omega), can_set (by rw [len_A]; omega), pO_h, pA_h]
  refine Iff.trans (Iff.trans ?_ a) ?_
  · exact ⟨fun g S => by have := g S; rw [gap_fO t] at this; dsimp only at this ⊢; omega, fun g S => by have := g S; rw [gap_fO t]; dsimp only at this ⊢; omega⟩
  · exact ⟨fun g S => by have := g S; rw [gap_fA]; dsimp only at this ⊢; omega, fun g S => by have := g S; rw [gap_fA] at this; dsimp only at this ⊢; omega⟩
/-- the heap carries no more than all scales -/
theorem heap_most (h : OkBk np nl pl ls) {ws : Nat → Bool} {x H : Int} (hc : Can (withPp (flowL np nl pl ls ws) (2 * nl + np) x H)) : x ≤ nl * 999 := by
  rw [can_set (by rw [flow_len]; omega), pp_h] at hc
  have h0 := hc fun n => n == 6
  rw [gap_Ra] at h0
  have e1 : gp (fun n => n == 6) { hPp ((nl : Int) * 999) with lo := x, hi := H } = -x := by
    have h6 : (6 : Int).toNat = 6 := rfl
    have h5 : (5 : Int).toNat = 5 := rfl
    simp [gp, hPp, h6, h5]
  have hp := h.hp
  have e2 : Ra np nl pl ls ws (fun n => n == 6) ≤ nl * 999 := by
    have a1 : sumF (fun i => gp (fun n => n == 6) (wPp ws i (lnAt ls i)) + gp (fun n => n == 6) (sPp (lnAt ls i))) nl ≤ nl * 999 := by
      refine sumF_const fun i _ => ?_
      obtain ⟨a1, a2, a3, a4, a5, a6, a7, a8, a9⟩ := h.ln i
      have n1 : ((nodeZ (lnAt ls i).fr).toNat == 6) = false := by simpa using nodeZ_6 _ a1 a2
      have n2 : ((nodeZ (lnAt ls i).to).toNat == 6) = false := by simpa using nodeZ_6 _ a3 a4
      have h6 : (6 : Int).toNat = 6 := rfl
      simp [gp, wPp, sPp, n1, n2, h6]
      omega
    have a2 : sumF (fun i => gp (fun n => n == 6) (pPp i (spAt pl i))) np ≤ np * 0 := by
      refine sumF_const fun i hi => ?_
      have n1 : (i == 6) = false := by simp; omega
      have h5 : (5 : Int).toNat = 5 := rfl
      simp [gp, pPp, n1, h5]
    unfold Ra
    omega
  rw [e1] at h0
  omega
theorem ends_k (t : ThruOk np nl k pl ls) (hc : Can (fA np nl pl ls)) :
    (∀ i, i < nl → endsP (2 * (nl + 1) + (np + 1) + 1) (fO np nl k pl ls) (2 * i) = endsP (2 * nl + np + 1) (fA np nl pl ls) (2 * i)) ∧
    endsP (2 * (nl + 1) + (np + 1) + 1) (fO np nl k pl ls) (2 * nl) = endsP (2 * nl + np + 1) (fA np nl pl ls) (2 * k) ∧
    endsP (2 * (nl + 1) + (np + 1) + 1) (fO np nl k pl ls) (2 * (nl + 1) + (np + 1)) = endsP (2 * nl + np + 1) (fA np nl pl ls) (2 * nl + np) := by
  have hk := t.hk
  have hcO := (can_O t).2 hc
  have nA := flow_nodes (ws := zw) t.ok
  have nO := flow_nodes (ws := zw) t.okO
  have lA := flow_lohi (ws := zw) t.ok
  have lO := flow_lohi (ws := zw) t.okO
  have LA := fun i (h : i < 2 * nl + np + 1) => endsP_low (l := fA np nl pl ls) (i := i) (by rw [len_A]; exact h) nA lA hc
  have HA := fun i (h : i < 2 * nl + np + 1) => endsP_high (l := fA np nl pl ls) (i := i) (by rw [len_A]; exact h) nA lA hc
  have LO := fun i (h : i < 2 * (nl + 1) + (np + 1) + 1) => endsP_low (l := fO np nl k pl ls) (i := i) (by rw [len_O]; exact h) nO lO hcO
  have HO := fun i (h : i < 2 * (nl + 1) + (np + 1) + 1) => endsP_high (l := fO np nl k pl ls) (i := i) (by rw [len_O]; exact h) nO lO hcO
  rw [len_A] at LA HA
  rw [len_O] at LO HO
  have spE_q11 : ∀ {a b : Sp}, a.lo = b.lo → a.hi = b.hi → a = b := by
    intro a b h1 h2; cases a; cases b; simp at h1 h2; simp [h1, h2]
  refine ⟨fun i hi => ?_, ?_, ?_⟩
  · by_cases e : i = k
    · subst e
      have p1 := pO_w t hi
      rw [if_pos rfl] at p1
      have p2 := pA_k (np := np) (pl := pl) (ls := ls) hi
      have lo1 : (ppAt (fO np nl i pl ls) (2 * i)).lo = (lnAt ls i).w.lo := by rw [p1]; rfl
      have hi1 : (ppAt (fO np nl i pl ls) (2 * i)).hi = (lnAt ls i).w.hi := by rw [p1]; rfl
      have lo2 : (ppAt (fA np nl pl ls) (2 * i)).lo = (lnAt ls i).w.lo := by rw [p2]; rfl
      have hi2 : (ppAt (fA np nl pl ls) (2 * i)).hi = (lnAt ls i).w.hi := by rw [p2]; rfl
      have h8 := (t.ok.ln i).2.2.2.2.2.2.2.1
      refine spE_q11 (low_eq (LO _ (by omega)) (LA _ (by omega)) (by rw [lo1, lo2]) fun x hx1 hx2 => ?_) (high_eq (HO _ (by omega)) (HA _ (by omega)) ?_ ?_ fun x hx1 hx2 hx3 => ?_)
      · rw [lo1] at hx1 ⊢
        rw [hi1, hi2] at hx2
        exact (c_k t (Int.le_refl _) (by omega) h8 hx1).1
      · rw [hi2, ← hi1]; exact (HO _ (by omega)).hi
      · rw [hi1, ← hi2]; exact (HA _ (by omega)).hi
      · rw [lo1, lo2] at hx1
        rw [hi1] at hx2
        rw [hi1, hi2]
        exact (c_k t (by omega) (Int.le_refl _) hx2 h8).1
    · have p1 := pO_w t hi
      rw [if_neg e] at p1
      have p2 := pA_w (np := np) (pl := pl) (ls := ls) hi
      refine spE_q11 (low_eq (LO _ (by omega)) (LA _ (by omega)) (by rw [p1, p2]) fun x hx1 hx2 => c_i t hi e _ _) (high_eq (HO _ (by omega)) (HA _ (by omega)) ?_ ?_ fun x hx1 hx2 hx3 => ?_)
      · rw [p2, ← p1]; exact (HO _ (by omega)).hi
      · rw [p1, ← p2]; exact (HA _ (by omega)).hi
      · rw [p1, p2]; exact c_i t hi e _ _
  · have p1 := pO_n t
    have p2 := pA_k (np := np) (pl := pl) (ls := ls) hk
    have lo1 : (ppAt (fO np nl k pl ls) (2 * nl)).lo = (lnAt ls k).w.lo := by rw [p1]; rfl
    have hi1 : (ppAt (fO np nl k pl ls) (2 * nl)).hi = (lnAt ls k).w.hi := by rw [p1]; rfl
    have lo2 : (ppAt (fA np nl pl ls) (2 * k)).lo = (lnAt ls k).w.lo := by rw [p2]; rfl
    have hi2 : (ppAt (fA np nl pl ls) (2 * k)).hi = (lnAt ls k).w.hi := by rw [p2]; rfl
    have h8 := (t.ok.ln k).2.2.2.2.2.2.2.1
    refine spE_q11 (low_eq (LO _ (by omega)) (LA _ (by omega)) (by rw [lo1, lo2]) fun x hx1 hx2 => ?_) (high_eq (HO _ (by omega)) (HA _ (by omega)) ?_ ?_ fun x hx1 hx2 hx3 => ?_)
    · rw [lo1] at hx1 ⊢
      rw [hi1, hi2] at hx2
      exact (c_k t (Int.le_refl _) (by omega) h8 hx1).2
    · rw [hi2, ← hi1]; exact (HO _ (by omega)).hi
    · rw [hi1, ← hi2]; exact (HA _ (by omega)).hi
    · rw [lo1, lo2] at hx1
      rw [hi1] at hx2
      rw [hi1, hi2]
      exact (c_k t (by omega) (Int.le_refl _) hx2 h8).2
  · have p1 := pO_h (np := np) (nl := nl) (k := k) (pl := pl) (ls := ls)
    have p2 := pA_h (np := np) (nl := nl) (pl := pl) (ls := ls)
    refine spE_q11 (low_eq (LO _ (by omega)) (LA _ (by omega)) (by rw [p1, p2]) fun x hx1 hx2 => c_h t _ _) (high_eq (HO _ (by omega)) (HA _ (by omega)) ?_ ?_ fun x hx1 hx2 hx3 => ?_)
    · have hcn := (HO (2 * (nl + 1) + (np + 1)) (by omega)).can
      rw [p1] at hcn
      rw [p2]
      exact heap_most t.ok ((c_hh t _).1 hcn)
    · have := (HA (2 * nl + np) (by omega)).hi
      rw [p2] at this
      rw [p1]
      have h9 : (nl : Int) * 999 ≤ ((nl + 1 : Nat) : Int) * 999 := by omega
      exact Int.le_trans this h9
    · rw [p1, p2]; exact c_hh t _
end

end Go.Proofs.Ytdhlnlmhdacblaa

namespace Go.Proofs.Ytdhlnlmhdacblaa
open Go.RowKit
open Go.Sort (grow)
set_option linter.unusedVariables false
set_option linter.unusedSimpArgs false

def ch (S : Nat → Bool) (n : Nat) (x : Int) : Int := bif S n then x else 0
theorem ch_add (S : Nat → Bool) (n : Nat) (x y : Int) : ch S n (x + y) = ch S n x + ch S n y := by unfold ch; cases S n <;> simp
theorem ch_sub (S : Nat → Bool) (n : Nat) (x y : Int) : ch S n (x - y) = ch S n x - ch S n y := by unfold ch; cases S n <;> simp
theorem ch_zero (S : Nat → Bool) (n : Nat) : ch S n 0 = 0 := by unfold ch; cases S n <;> rfl
theorem gp_x (S : Nat → Bool) (f t x : Int) : gp S ⟨f, t, x, x⟩ = ch S t.toNat x - ch S f.toNat x := by
  unfold gp ch; cases S t.toNat <;> cases S f.toNat <;> simp
theorem gp_ge (S : Nat → Bool) (p : Pp) (x : Int) (h1 : p.lo ≤ x) (h2 : x ≤ p.hi) : gp S ⟨p.fr, p.to, x, x⟩ ≤ gp S p := by
  unfold gp; dsimp only; cases S p.to.toNat <;> cases S p.fr.toNat <;> simp <;> omega
theorem sumF_sub (f g : Nat → Int) (n : Nat) : sumF (fun i => f i - g i) n = sumF f n - sumF g n := by
  induction n with
  | zero => rfl
  | succ n ih => simp only [sumF, ih]; omega
theorem ch_sum (S : Nat → Bool) (m : Nat) (f : Nat → Int) (n : Nat) : ch S m (sumF f n) = sumF (fun i => ch S m (f i)) n := by
  induction n with
  | zero => exact ch_zero S m
  | succ n ih => simp only [sumF, ch_add, ih]
theorem sumF_zero (n : Nat) {f : Nat → Int} (h : ∀ i, i < n → f i = 0) : sumF f n = 0 := by
  induction n with
  | zero => rfl
  | succ n ih => simp only [sumF, ih fun i hi => h i (by omega), h n (by omega)]; rfl
theorem sumF_one {n k : Nat} {f : Nat → Int} (hk : k < n) (h : ∀ i, i < n → i ≠ k → f i = 0) : sumF f n = f k := by
  rw [sumF_but (g := fun _ => 0) hk h, sumF_zero n (fun _ _ => rfl)]; omega
/-- what one line brings to one place -/
theorem ind_one (S : Nat → Bool) (np : Nat) (t a : Int) (ht : t = -1 ∨ (0 ≤ t ∧ t < np)) (hp : np ≤ 5) :
    sumF (fun j : Nat => ch S 5 (bif t == (j : Int) then a else 0) - ch S j (bif t == (j : Int) then a else 0)) np = ch S 5 a - ch S (nodeZ t).toNat a := by
  rcases ht with rfl | ⟨h0, h1⟩
  · rw [sumF_zero np (fun j _ => by
      have : ((-1 : Int) == (j : Int)) = false := by first | (simp; done) | (simp; omega)
      rw [this]; simp [ch_zero])]
    have : (nodeZ (-1)).toNat = 5 := rfl
    rw [this]; omega
  · obtain ⟨k, rfl⟩ := Int.eq_ofNat_of_zero_le h0
    have hk : k < np := by omega
    rw [sumF_one hk (fun j _ hj => by
      have : ((k : Int) == (j : Int)) = false := by first | (simp; done) | (simp; omega)
      rw [this]; simp [ch_zero])]
    have e : (nodeZ (k : Int)).toNat = k := by unfold nodeZ; split <;> omega
    rw [e]; simp
theorem chg_sum (S : Nat → Bool) {np nl : Nat} {ls : List Ln} (hb : InBk np nl ls) (hp : np ≤ 5) (ws ss : List Int) (n : Nat) (hn : n ≤ nl) :
    sumF (fun j : Nat => ch S 5 (chgN ls ws ss (j : Int) n) - ch S j (chgN ls ws ss (j : Int) n)) np =
    sumF (fun i => (ch S 5 (iAt ws i - iAt ss i) - ch S (nodeZ (lnAt ls i).to).toNat (iAt ws i - iAt ss i)) - (ch S 5 (iAt ws i) - ch S (nodeZ (lnAt ls i).fr).toNat (iAt ws i))) n := by
  induction n with
  | zero => simp only [chgN, sumF]; exact sumF_zero np fun j _ => by simp [ch_zero]
  | succ n ih =>
    have h1 := ih (by omega)
    have a1 := ind_one S np (lnAt ls n).to (iAt ws n - iAt ss n) (hb.to n (by omega)) hp
    have a2 := ind_one S np (lnAt ls n).fr (iAt ws n) (hb.fr n (by omega)) hp
    simp only [sumF]
    rw [← h1, ← a1, ← a2, ← sumF_sub, ← sumF_add]
    refine sumF_congr fun j _ => ?_
    simp only [chgN, ch_add, ch_sub]
    omega
/-- what came in is what went out, of each set -/
theorem flow_zero (S : Nat → Bool) {np nl : Nat} {ls : List Ln} (hb : InBk np nl ls) (hp : np ≤ 5) (ws ss : List Int) :
    sumF (fun i => gp S ⟨nodeZ (lnAt ls i).fr, nodeZ (lnAt ls i).to, iAt ws i, iAt ws i⟩ + gp S ⟨nodeZ (lnAt ls i).to, 6, iAt ss i, iAt ss i⟩) nl +
      sumF (fun j : Nat => gp S ⟨(j : Int), 5, chgN ls ws ss (j : Int) nl, chgN ls ws ss (j : Int) nl⟩) np + gp S ⟨6, 5, sumF (iAt ss) nl, sumF (iAt ss) nl⟩ = 0 := by
  have h1 := chg_sum S hb hp ws ss nl (Nat.le_refl _)
  have h65 : (6 : Int).toNat = 6 ∧ (5 : Int).toNat = 5 := ⟨rfl, rfl⟩
  simp only [gp_x, h65.1, h65.2, Int.toNat_natCast, ch_sum]
  rw [h1, ← sumF_sub, ← sumF_add, ← sumF_add]
  exact sumF_zero nl fun i _ => by simp only [ch_sub]; omega
/-- the numbers of an account lie within the pipes' bounds -/
structure Within (np nl : Nat) (pl : List Sp) (ls : List Ln) (f : Nat → Bool) (ws ss : List Int) : Prop where
  w : ∀ i, i < nl → (wPp f i (lnAt ls i)).lo ≤ iAt ws i ∧ iAt ws i ≤ (wPp f i (lnAt ls i)).hi
  s : ∀ i, i < nl → (lnAt ls i).s.lo ≤ iAt ss i ∧ iAt ss i ≤ (lnAt ls i).s.hi
  c : ∀ j : Nat, j < np → (spAt pl j).lo ≤ chgN ls ws ss (j : Int) nl ∧ chgN ls ws ss (j : Int) nl ≤ (spAt pl j).hi
  t : 0 ≤ sumF (iAt ss) nl ∧ sumF (iAt ss) nl ≤ nl * 999
section
variable {np nl : Nat} {pl : List Sp} {ls : List Ln} {f : Nat → Bool} {ws ss : List Int}
theorem fix_can (hb : InBk np nl ls) (hp : np ≤ 5) (h : Within np nl pl ls f ws ss) :
    Can (flowL np nl pl ls f) ∧ (∀ i, i < nl → Can (withPp (flowL np nl pl ls f) (2 * i) (iAt ws i) (iAt ws i))) ∧
    (∀ j : Nat, j < np → Can (withPp (flowL np nl pl ls f) (2 * nl + j) (chgN ls ws ss (j : Int) nl) (chgN ls ws ss (j : Int) nl))) ∧
    Can (withPp (flowL np nl pl ls f) (2 * nl + np) (sumF (iAt ss) nl) (sumF (iAt ss) nl)) := by
  have A : ∀ S i, i < nl → gp S ⟨nodeZ (lnAt ls i).fr, nodeZ (lnAt ls i).to, iAt ws i, iAt ws i⟩ ≤ gp S (wPp f i (lnAt ls i)) := fun S i hi => gp_ge S (wPp f i (lnAt ls i)) _ (h.w i hi).1 (h.w i hi).2
  have B : ∀ S i, i < nl → gp S ⟨nodeZ (lnAt ls i).to, 6, iAt ss i, iAt ss i⟩ ≤ gp S (sPp (lnAt ls i)) := fun S i hi => gp_ge S (sPp (lnAt ls i)) _ (h.s i hi).1 (h.s i hi).2
  have C : ∀ S (j : Nat), j < np → gp S ⟨(j : Int), 5, chgN ls ws ss (j : Int) nl, chgN ls ws ss (j : Int) nl⟩ ≤ gp S (pPp j (spAt pl j)) := fun S j hj => gp_ge S (pPp j (spAt pl j)) _ (h.c j hj).1 (h.c j hj).2
  have D : ∀ S, gp S ⟨6, 5, sumF (iAt ss) nl, sumF (iAt ss) nl⟩ ≤ gp S (hPp (nl * 999)) := fun S => gp_ge S (hPp (nl * 999)) _ h.t.1 h.t.2
  have SA : ∀ S, sumF (fun i => gp S ⟨nodeZ (lnAt ls i).fr, nodeZ (lnAt ls i).to, iAt ws i, iAt ws i⟩ + gp S ⟨nodeZ (lnAt ls i).to, 6, iAt ss i, iAt ss i⟩) nl ≤ sumF (fun i => gp S (wPp f i (lnAt ls i)) + gp S (sPp (lnAt ls i))) nl :=
    fun S => sumF_le fun i hi => by have := A S i hi; have := B S i hi; omega
  have SC : ∀ S, sumF (fun j : Nat => gp S ⟨(j : Int), 5, chgN ls ws ss (j : Int) nl, chgN ls ws ss (j : Int) nl⟩) np ≤ sumF (fun i => gp S (pPp i (spAt pl i))) np := fun S => sumF_le fun j hj => C S j hj
  refine ⟨fun S => ?_, fun i hi => ?_, fun j hj => ?_, ?_⟩
  · rw [gap_flow]
    have := flow_zero S hb hp ws ss
    have := SA S
    have := SC S
    have := D S
    omega
  · rw [can_set (by rw [flow_len]; omega), pp_w hi]
    intro S
    rw [gap_flow]
    have z := flow_zero S hb hp ws ss
    have := SC S
    have := D S
    have e := sumF_but (f := fun j => if j = i then gp S ⟨nodeZ (lnAt ls i).fr, nodeZ (lnAt ls i).to, iAt ws i, iAt ws i⟩ + gp S (sPp (lnAt ls i)) else gp S (wPp f j (lnAt ls j)) + gp S (sPp (lnAt ls j))) (g := fun j => gp S (wPp f j (lnAt ls j)) + gp S (sPp (lnAt ls j))) hi (fun j _ hne => if_neg hne)
    simp only [if_true] at e
    have l : sumF (fun i => gp S ⟨nodeZ (lnAt ls i).fr, nodeZ (lnAt ls i).to, iAt ws i, iAt ws i⟩ + gp S ⟨nodeZ (lnAt ls i).to, 6, iAt ss i, iAt ss i⟩) nl ≤ sumF (fun j => if j = i then gp S ⟨nodeZ (lnAt ls i).fr, nodeZ (lnAt ls i).to, iAt ws i, iAt ws i⟩ + gp S (sPp (lnAt ls i)) else gp S (wPp f j (lnAt ls j)) + gp S (sPp (lnAt ls j))) nl :=
      sumF_le fun j hj => by
        by_cases e : j = i
        · subst e; rw [if_pos rfl]; have := B S j hj; omega
        · rw [if_neg e]; have := A S j hj; have := B S j hj; omega
    have q : gp S { wPp f i (lnAt ls i) with lo := iAt ws i, hi := iAt ws i } = gp S ⟨nodeZ (lnAt ls i).fr, nodeZ (lnAt ls i).to, iAt ws i, iAt ws i⟩ := rfl
    rw [q]
    omega
  · rw [can_set (by rw [flow_len]; omega), pp_p hj]
    intro S
    rw [gap_flow]
    have z := flow_zero S hb hp ws ss
    have := SA S
    have := D S
    have e := sumF_but (f := fun k : Nat => if k = j then gp S ⟨(j : Int), 5, chgN ls ws ss (j : Int) nl, chgN ls ws ss (j : Int) nl⟩ else gp S (pPp k (spAt pl k))) (g := fun k => gp S (pPp k (spAt pl k))) hj (fun k _ hne => if_neg hne)
    simp only [if_true] at e
    have l : sumF (fun j : Nat => gp S ⟨(j : Int), 5, chgN ls ws ss (j : Int) nl, chgN ls ws ss (j : Int) nl⟩) np ≤ sumF (fun k : Nat => if k = j then gp S ⟨(j : Int), 5, chgN ls ws ss (j : Int) nl, chgN ls ws ss (j : Int) nl⟩ else gp S (pPp k (spAt pl k))) np :=
      sumF_le fun k hk => by
        by_cases e : k = j
        · subst e; rw [if_pos rfl]; exact Int.le_refl _
        · rw [if_neg e]; exact C S k hk
    have q : gp S { pPp j (spAt pl j) with lo := chgN ls ws ss (j : Int) nl, hi := chgN ls ws ss (j : Int) nl } = gp S ⟨(j : Int), 5, chgN ls ws ss (j : Int) nl, chgN ls ws ss (j : Int) nl⟩ := rfl
    rw [q]
    omega
  · rw [can_set (by rw [flow_len]; omega), pp_h]
    intro S
    rw [gap_flow]
    have z := flow_zero S hb hp ws ss
    have := SA S
    have := SC S
    have q : gp S { hPp ((nl : Int) * 999) with lo := sumF (iAt ss) nl, hi := sumF (iAt ss) nl } = gp S ⟨6, 5, sumF (iAt ss) nl, sumF (iAt ss) nl⟩ := rfl
    rw [q]
    omega
end

end Go.Proofs.Ytdhlnlmhdacblaa

namespace Go.Proofs.Ytdhlnlmhdacblaa
open Go.RowKit
open Go.Sort (grow)
set_option linter.unusedVariables false
set_option linter.unusedSimpArgs false

theorem cnt_zero : (List.range 256).all (fun s => (s == 0) == (cnt 8 s == 0)) = true := by decide +kernel
theorem cnt0 {s : Nat} (h : s < 256) (h0 : s ≠ 0) : ((cnt 8 s : Int) == 0) = false := by
  have := List.all_eq_true.1 cnt_zero s (by simpa using h)
  have e : (s == 0) = false := by simpa using h0
  rw [e] at this
  simp at this ⊢
  omega
theorem sets0 {np nl : Nat} {pl : List Sp} {ls : List Ln} (hl : nl ≤ 8) : truthSets np nl pl ls 0 = bif canL (2 * nl + np + 1) (fA np nl pl ls) then [0] else [] := by
  have hm : min (0 : Int) (nl : Int) = 0 := by omega
  obtain ⟨M, hM⟩ : ∃ M, 2 ^ nl = M + 1 := ⟨2 ^ nl - 1, by have := Nat.two_pow_pos nl; omega⟩
  have hMle : M + 1 ≤ 256 := by
    have : 2 ^ nl ≤ 2 ^ 8 := Nat.pow_le_pow_right (by omega) hl
    omega
  unfold truthSets netSets
  rw [hm, hM, List.range_succ_eq_map, List.filter_cons]
  have h1 : (List.map Nat.succ (List.range M)).filter (sel np nl pl ls 0) = [] := by
    rw [List.filter_eq_nil_iff]
    intro s hs
    obtain ⟨j, hj, rfl⟩ := List.mem_map.1 hs
    have hj' : j < M := by simpa using hj
    rw [sel, cnt0 (by omega) (by omega)]
    simp
  have h2 : sel np nl pl ls 0 0 = canL (2 * nl + np + 1) (fA np nl pl ls) := by
    rw [sel, zero_bits]
    have : ((cnt 8 0 : Int) == 0) = true := by decide
    rw [this, Bool.true_and]; rfl
  rw [h1, h2]
  cases canL (2 * nl + np + 1) (fA np nl pl ls) <;> rfl
theorem ckBk_0 {np nl : Nat} {pl : List Sp} {ls : List Ln} {wr : Int} (h : ckBk np nl pl ls wr = true) : ckBk np nl pl ls 0 = true := by
  unfold ckBk at h ⊢
  simp only [Bool.and_eq_true, Bool.not_eq_true', Bool.or_eq_false_iff, Bool.not_eq_false'] at h ⊢
  exact ⟨⟨h.1.1, by decide⟩, h.2⟩
theorem canL_A {np nl : Nat} {pl : List Sp} {ls : List Ln} (h : OkBk np nl pl ls) : canL (2 * nl + np + 1) (fA np nl pl ls) = true ↔ Can (fA np nl pl ls) := by
  have := canL_iff (l := fA np nl pl ls) (flow_nodes h)
  rwa [len_A] at this
theorem endsB0 {np nl : Nat} {pl : List Sp} {ls : List Ln} (hl : nl ≤ 8) (h : canL (2 * nl + np + 1) (fA np nl pl ls) = true) (i : Nat) : endsB np nl pl ls 0 i = endsP (2 * nl + np + 1) (fA np nl pl ls) i := by
  rw [endsB, sets0 hl, h]
  show hull [endsS np nl pl ls i 0] = _
  rw [hull_one, endsS, zero_bits]; rfl
theorem askZ0 {np nl : Nat} {pl : List Sp} {ls : List Ln} (hl : nl ≤ 8) (hck : ckBk np nl pl ls 0 = true) : askZ np nl pl ls 0 true = bif canL (2 * nl + np + 1) (fA np nl pl ls) then 0 else 3 := by
  rw [askZ, hck, sets0 hl]
  cases canL (2 * nl + np + 1) (fA np nl pl ls) <;> rfl
theorem fO_eq {np nl k : Nat} {pl : List Sp} {ls : List Ln} : fO np nl k pl ls = fA (np + 1) (nl + 1) (oPl pl) (oLs np ls k) := rfl
theorem thru_ans {np nl k : Nat} {pl : List Sp} {ls : List Ln} (hp : np < 5) (hn : nl + 1 ≤ 8) (hk : k < nl) (lp : pl.length = np) (ll : ls.length = nl) (hck : ckBk np nl pl ls 0 = true) (hckO : ckBk (np + 1) (nl + 1) (oPl pl) (oLs np ls k) 0 = true) :
    isKn_q11 (askZ np nl pl ls 0 true) = true ∧ askZ (np + 1) (nl + 1) (oPl pl) (oLs np ls k) 0 true = askZ np nl pl ls 0 true ∧
    (askZ np nl pl ls 0 true = 0 → (∀ i, i < nl → endsB (np + 1) (nl + 1) (oPl pl) (oLs np ls k) 0 (2 * i) = endsB np nl pl ls 0 (2 * i)) ∧
      endsB (np + 1) (nl + 1) (oPl pl) (oLs np ls k) 0 (2 * nl) = endsB np nl pl ls 0 (2 * k) ∧ endsB (np + 1) (nl + 1) (oPl pl) (oLs np ls k) 0 (2 * (nl + 1) + (np + 1)) = endsB np nl pl ls 0 (2 * nl + np)) := by
  have ok := (okBk_of lp ll hck).1
  have okO := (okBk_of (pl := oPl pl) (ls := oLs np ls k) (by simp [oPl, lp]) (by simp [oLs, ll]) hckO).1
  have t : ThruOk np nl k pl ls := ⟨ok, inBk_of hck, okO, hp, hk, lp, ll⟩
  have hc := can_O t
  rw [fO_eq] at hc
  have hcl : canL (2 * (nl + 1) + (np + 1) + 1) (fA (np + 1) (nl + 1) (oPl pl) (oLs np ls k)) = canL (2 * nl + np + 1) (fA np nl pl ls) := by
    rw [Bool.eq_iff_iff, canL_A okO, canL_A ok, hc]
  rw [askZ0 (by omega) hck, askZ0 (by omega) hckO, hcl]
  refine ⟨by cases canL (2 * nl + np + 1) (fA np nl pl ls) <;> rfl, rfl, fun h0 => ?_⟩
  have h1 : canL (2 * nl + np + 1) (fA np nl pl ls) = true := by
    cases e : canL (2 * nl + np + 1) (fA np nl pl ls)
    · rw [e] at h0; cases h0
    · rfl
  have h2 : canL (2 * (nl + 1) + (np + 1) + 1) (fA (np + 1) (nl + 1) (oPl pl) (oLs np ls k)) = true := by rw [hcl, h1]
  obtain ⟨e1, e2, e3⟩ := ends_k t ((canL_A ok).1 h1)
  rw [fO_eq] at e1 e2 e3
  refine ⟨fun i hi => ?_, ?_, ?_⟩
  · rw [endsB0 (by omega) h1, endsB0 (by omega) h2]; exact e1 i hi
  · rw [endsB0 (by omega) h1, endsB0 (by omega) h2]; exact e2
  · rw [endsB0 (by omega) h1, endsB0 (by omega) h2]; exact e3

def vSp (lo hi e : Int) : Value := .tuple #[.agg #[.int .i64 lo, .int .i64 hi], .int .i64 e]
theorem isNo_nat {i n : Nat} (h : i < n) : isNo (i : Int) n = true := by simp [isNo, wi_q11]; omega
theorem thru_vals {np nl k : Nat} {pl : List Sp} {ls : List Ln} (hp : np < 5) (hn : nl + 1 ≤ 8) (hk : k < nl) (lp : pl.length = np) (ll : ls.length = nl) (hck : ckBk np nl pl ls 0 = true) (hckO : ckBk (np + 1) (nl + 1) (oPl pl) (oLs np ls k) 0 = true) :
    ∃ z, isKn_q11 z = true ∧ (∃ a b, ansS (askZ np nl pl ls 0 true) (endsB np nl pl ls 0 (2 * nl + np)) = vSp a b z ∧ ansS (askZ (np + 1) (nl + 1) (oPl pl) (oLs np ls k) 0 true) (endsB (np + 1) (nl + 1) (oPl pl) (oLs np ls k) 0 (2 * (nl + 1) + (np + 1))) = vSp a b z) ∧
      (∀ i : Nat, i < nl → ∃ a b, ansS (askZ np nl pl ls 0 (isNo (i : Int) nl)) (endsB np nl pl ls 0 (2 * (i : Int).toNat)) = vSp a b z ∧ ansS (askZ (np + 1) (nl + 1) (oPl pl) (oLs np ls k) 0 (isNo (i : Int) (nl + 1))) (endsB (np + 1) (nl + 1) (oPl pl) (oLs np ls k) 0 (2 * (i : Int).toNat)) = vSp a b z) ∧
      (∃ a b, ansS (askZ np nl pl ls 0 (isNo (k : Int) nl)) (endsB np nl pl ls 0 (2 * (k : Int).toNat)) = vSp a b z ∧ ansS (askZ (np + 1) (nl + 1) (oPl pl) (oLs np ls k) 0 (isNo (nl : Int) (nl + 1))) (endsB (np + 1) (nl + 1) (oPl pl) (oLs np ls k) 0 (2 * (nl : Int).toNat)) = vSp a b z) := by
  obtain ⟨h1, h2, h3⟩ := thru_ans hp hn hk lp ll hck hckO
  have key : ∀ (s t : Sp), (askZ np nl pl ls 0 true = 0 → t = s) → ∃ a b, ansS (askZ np nl pl ls 0 true) s = vSp a b (askZ np nl pl ls 0 true) ∧ ansS (askZ (np + 1) (nl + 1) (oPl pl) (oLs np ls k) 0 true) t = vSp a b (askZ np nl pl ls 0 true) := by
    intro s t hst
    rw [h2]
    by_cases h0 : askZ np nl pl ls 0 true = 0
    · rw [hst h0, h0]; exact ⟨s.lo, s.hi, rfl, rfl⟩
    · have hb : (askZ np nl pl ls 0 true == 0) = false := by simpa using h0
      simp only [ansS, hb]
      exact ⟨0, 0, rfl, rfl⟩
  refine ⟨askZ np nl pl ls 0 true, h1, key _ _ (fun h0 => (h3 h0).2.2), fun i hi => ?_, ?_⟩
  · rw [isNo_nat hi, isNo_nat (by omega : i < nl + 1)]
    exact key _ _ (fun h0 => (h3 h0).1 i hi)
  · rw [isNo_nat hk, isNo_nat (by omega : nl < nl + 1)]
    exact key _ _ (fun h0 => (h3 h0).2.1)

end Go.Proofs.Ytdhlnlmhdacblaa
