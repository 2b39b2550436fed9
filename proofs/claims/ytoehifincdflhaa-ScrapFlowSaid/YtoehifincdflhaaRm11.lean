/- The specification's bounds (layer 11) are the program's: sets of places and the heap are the cuts of the net. -/
import Derived.Test.YtoehifincdflhaaRn11
import Derived.Test.YtoehifincdflhaaTj11
import Derived.Test.YtoehifincdflhaaTm11
import Derived.Test.YtoehifincdflhaaMo11
namespace Go.Proofs.Ytoehifincdflhaa
open Go.RowKit
open Go.Sort (grow)
set_option linter.unusedVariables false

section
variable {np nl s0 : Nat} {pl : List Sp} {ls : List Ln}
/-- the nodes of a set of places (and the heap) -/
def SS (np t : Nat) : Nat → Bool := fun v => if v = 6 then t.testBit np else decide (v < np) && t.testBit v
def nS (S : Nat → Bool) : Nat → Bool := fun v => !S v
/-- the net of the program, the heap's bound that of the specification -/
def F8 (np nl : Nat) (pl : List Sp) (ls : List Ln) (s0 : Nat) : List Pp := withPp (flowL np nl pl ls s0.testBit) (2 * nl + np) 0 7992
theorem SS_node {n : Int} {t : Nat} (hp : np ≤ 5) (h : n = -1 ∨ (0 ≤ n ∧ n < np)) : SS np t (nodeZ n).toNat = hsB t n := by
  unfold SS nodeZ hsB
  rcases h with rfl | ⟨h1, h2⟩
  · simp; omega
  · rw [if_neg (show ¬ n < 0 by omega), if_neg (by omega)]
    simp [h1]; omega
theorem SS_5 {t : Nat} (hp : np ≤ 5) : SS np t 5 = false := by
  unfold SS; simp; omega
theorem SS_6 {t : Nat} : SS np t 6 = hsB t (np : Int) := by
  unfold SS hsB; simp
theorem gp_nS (S : Nat → Bool) (p : Pp) : gp (nS S) p = (bif S p.fr.toNat && !S p.to.toNat then p.hi else 0) - (bif S p.to.toNat && !S p.fr.toNat then p.lo else 0) := by
  unfold gp nS
  cases S p.fr.toNat <;> cases S p.to.toNat <;> simp
theorem opTo_get (np : Nat) (ls : List Ln) (s0 : Nat) {n i : Nat} (h : i < n) : (opTo np ls s0 n)[2 * i]? = some ⟨(lnAt ls i).fr, (lnAt ls i).to, (rwB s0 i (lnAt ls i)).lo, (rwB s0 i (lnAt ls i)).hi⟩ ∧ (opTo np ls s0 n)[2 * i + 1]? = some ⟨(lnAt ls i).to, np, (lnAt ls i).s.lo, (lnAt ls i).s.hi⟩ := by
  induction n with
  | zero => omega
  | succ n ih =>
    have hl := opTo_len np ls s0 n
    rw [opTo_succ]
    by_cases e : i = n
    · subst e
      rw [List.getElem?_append_right (by omega), List.getElem?_append_right (by omega), hl, Nat.sub_self, show 2 * i + 1 - 2 * i = 1 by omega]
      exact ⟨rfl, rfl⟩
    · rw [List.getElem?_append_left (by omega), List.getElem?_append_left (by omega)]
      exact ih (by omega)
theorem op_w {i : Nat} (h : i < nl) : ppAt (opTo np ls s0 nl) (2 * i) = ⟨(lnAt ls i).fr, (lnAt ls i).to, (rwB s0 i (lnAt ls i)).lo, (rwB s0 i (lnAt ls i)).hi⟩ := ppAt_some (opTo_get np ls s0 h).1
theorem op_s {i : Nat} (h : i < nl) : ppAt (opTo np ls s0 nl) (2 * i + 1) = ⟨(lnAt ls i).to, np, (lnAt ls i).s.lo, (lnAt ls i).s.hi⟩ := ppAt_some (opTo_get np ls s0 h).2
theorem rw_lo (i : Nat) (l : Ln) : (wPp s0.testBit i l).lo = (rwB s0 i l).lo ∧ (wPp s0.testBit i l).hi = (rwB s0 i l).hi := by
  unfold wPp rwB; cases s0.testBit i <;> exact ⟨rfl, rfl⟩
theorem st_p (lp : pl.length = np) {j : Nat} (h : j < np) : spAt (opSt pl) j = spAt pl j := by
  unfold spAt opSt; rw [List.getD_eq_getElem?_getD, List.getD_eq_getElem?_getD, List.getElem?_append_left (by omega)]
theorem st_h (lp : pl.length = np) : spAt (opSt pl) np = ⟨0, 7992⟩ := by
  unfold spAt opSt; rw [List.getD_eq_getElem?_getD, List.getElem?_append_right (by omega), lp, Nat.sub_self]; rfl
theorem sumF_two (f : Nat → Int) (n : Nat) : sumF f (2 * n) = sumF (fun i => f (2 * i) + f (2 * i + 1)) n := by
  induction n with
  | zero => rfl
  | succ n ih => rw [show 2 * (n + 1) = 2 * n + 1 + 1 by omega]; simp only [sumF, ih]; omega
theorem sumF_neg (f : Nat → Int) (n : Nat) : sumF (fun i => -f i) n = -sumF f n := by
  induction n with
  | zero => rfl
  | succ n ih => simp only [sumF, ih]; omega
/-- one pipe: what it takes from a set's sums -/
theorem pipe_lo {t k : Nat} {pp : List Pp} {p q : Pp} (hk : ((k : Int) == -1) = false) (hq : ppAt pp k = q) (e1 : SS np t p.fr.toNat = hsB t q.fr) (e2 : SS np t p.to.toNat = hsB t q.to) (e3 : p.lo = q.lo) (e4 : p.hi = q.hi) :
    pLo t (-1) pp k = -gp (SS np t) p ∧ pHi t (-1) pp k = gp (nS (SS np t)) p ∧ pKs t (-1) pp k = 0 := by
  rw [gp_nS]
  unfold pLo pHi pKs gp
  rw [hq, hk, e1, e2, e3, e4]
  cases hsB t q.fr <;> cases hsB t q.to <;> simp
theorem pKs_free {t k : Nat} {pp : List Pp} {p q : Pp} (hq : ppAt pp k = q) (e1 : SS np t p.fr.toNat = hsB t q.fr) (e2 : SS np t p.to.toNat = hsB t q.to) :
    pKs t (k : Int) pp k = (bif enP (SS np t) p then 1 else 0) - (bif lvP (SS np t) p then 1 else 0) ∧ pLo t (k : Int) pp k = 0 ∧ pHi t (k : Int) pp k = 0 := by
  unfold pKs pLo pHi enP lvP
  rw [hq, e1, e2]
  cases hsB t q.fr <;> cases hsB t q.to <;> simp
theorem pOther {t k : Nat} {f : Nat} {pp : List Pp} (h : k ≠ f) : pLo t (f : Int) pp k = pLo t (-1) pp k ∧ pHi t (f : Int) pp k = pHi t (-1) pp k ∧ pKs t (f : Int) pp k = pKs t (-1) pp k := by
  have e1 : ((k : Int) == (f : Int)) = false := by simp; omega
  have e2 : ((k : Int) == -1) = false := by simp
  unfold pLo pHi pKs
  rw [e1, e2]
  exact ⟨rfl, rfl, rfl⟩
theorem bOther {t k : Nat} {f : Nat} {st : List Sp} (h : k ≠ f) : bLo t (f : Int) st k = bLo t (-1) st k ∧ bHi t (f : Int) st k = bHi t (-1) st k ∧ bKs t (f : Int) k = bKs t (-1) k := by
  have e1 : ((k : Int) == (f : Int)) = false := by simp; omega
  have e2 : ((k : Int) == -1) = false := by simp
  unfold bLo bHi bKs
  rw [e1, e2]
  exact ⟨rfl, rfl, rfl⟩
theorem bFree {t k : Nat} {st : List Sp} : bLo t (k : Int) st k = 0 ∧ bHi t (k : Int) st k = 0 ∧ bKs t (k : Int) k = bif hsB t (k : Int) then -1 else 0 := by
  unfold bLo bHi bKs
  cases hsB t (k : Int) <;> simp
theorem bNone {t k : Nat} {st : List Sp} : bLo t (-1) st k = (bif hsB t (k : Int) then (spAt st k).lo else 0) ∧ bHi t (-1) st k = (bif hsB t (k : Int) then (spAt st k).hi else 0) ∧ bKs t (-1) k = 0 := by
  have e2 : ((k : Int) == -1) = false := by simp
  unfold bLo bHi bKs
  rw [e2]
  cases hsB t (k : Int) <;> simp
/-- the pipes of the program's net, by number -/
theorem F8_len : (F8 np nl pl ls s0).length = 2 * nl + np + 1 := by rw [F8, withPp_length, flow_len]
theorem F8_at {k : Nat} (h : k < 2 * nl + np) : ppAt (F8 np nl pl ls s0) k = ppAt (flowL np nl pl ls s0.testBit) k := by
  rw [F8, withPp_at _ _ _ _ _ (by rw [flow_len]; omega), if_neg (by omega)]
theorem F8_h : ppAt (F8 np nl pl ls s0) (2 * nl + np) = ⟨6, 5, 0, 7992⟩ := by
  rw [F8, withPp_at _ _ _ _ _ (by rw [flow_len]; omega), if_pos rfl, pp_h]; rfl
theorem gap_F8 (S : Nat → Bool) : gap S (F8 np nl pl ls s0) = Ra np nl pl ls s0.testBit S + gp S ⟨6, 5, 0, 7992⟩ := by
  rw [F8, withPp, gap_set _ _ _ _ (by rw [flow_len]; omega), pp_h, gap_Ra]
  simp only [hPp]
  omega
structure Ctx (np nl : Nat) (pl : List Sp) (ls : List Ln) : Prop where
  ok : OkBk np nl pl ls
  inb : InBk np nl ls
  lp : pl.length = np
  ll : ls.length = nl
theorem SS_pl {t j : Nat} (hp : np ≤ 5) (h : j < np) : SS np t j = hsB t (j : Int) := by
  unfold SS hsB
  rw [if_neg (by omega)]
  simp [h]
theorem F8_pipe (c : Ctx np nl pl ls) (t : Nat) {k : Nat} (hk : k < 2 * nl) : SS np t (ppAt (F8 np nl pl ls s0) k).fr.toNat = hsB t (ppAt (opTo np ls s0 nl) k).fr ∧ SS np t (ppAt (F8 np nl pl ls s0) k).to.toNat = hsB t (ppAt (opTo np ls s0 nl) k).to ∧
    (ppAt (F8 np nl pl ls s0) k).lo = (ppAt (opTo np ls s0 nl) k).lo ∧ (ppAt (F8 np nl pl ls s0) k).hi = (ppAt (opTo np ls s0 nl) k).hi := by
  have hp := c.ok.hp
  rw [F8_at (by omega)]
  obtain ⟨i, hi⟩ : ∃ i, k = 2 * i ∨ k = 2 * i + 1 := ⟨k / 2, by omega⟩
  rcases hi with rfl | rfl
  · rw [pp_w (by omega), op_w (by omega)]
    exact ⟨SS_node hp (c.inb.fr i (by omega)), SS_node hp (c.inb.to i (by omega)), (rw_lo i _).1, (rw_lo i _).2⟩
  · rw [pp_s (by omega), op_s (by omega)]
    exact ⟨SS_node hp (c.inb.to i (by omega)), SS_6, rfl, rfl⟩
theorem F8_place (c : Ctx np nl pl ls) (t : Nat) {j : Nat} (hj : j < np + 1) : enP (SS np t) (ppAt (F8 np nl pl ls s0) (2 * nl + j)) = false ∧ lvP (SS np t) (ppAt (F8 np nl pl ls s0) (2 * nl + j)) = hsB t (j : Int) ∧
    (ppAt (F8 np nl pl ls s0) (2 * nl + j)).lo = (spAt (opSt pl) j).lo ∧ (ppAt (F8 np nl pl ls s0) (2 * nl + j)).hi = (spAt (opSt pl) j).hi := by
  have hp := c.ok.hp
  have h5 := SS_5 (t := t) hp
  by_cases e : j = np
  · subst e
    rw [F8_h, st_h c.lp]
    have h6 : (6 : Int).toNat = 6 := rfl
    have h55 : (5 : Int).toNat = 5 := rfl
    refine ⟨by simp [enP, h55, h5], ?_, rfl, rfl⟩
    simp [lvP, h6, h55, h5, SS_6]
  · rw [F8_at (by omega), pp_p (by omega), st_p c.lp (by omega)]
    have h55 : (5 : Int).toNat = 5 := rfl
    refine ⟨by simp [enP, pPp, h55, h5], ?_, rfl, rfl⟩
    simp [lvP, pPp, h55, h5, SS_pl hp (show j < np by omega)]
theorem gp_enlv (S : Nat → Bool) (p : Pp) : gp S p = (bif enP S p then p.hi else 0) - (bif lvP S p then p.lo else 0) := rfl
theorem gp_nenlv (S : Nat → Bool) (p : Pp) : gp (nS S) p = (bif lvP S p then p.hi else 0) - (bif enP S p then p.lo else 0) := gp_nS S p
/-- the room as a sum over the net's pipes -/
theorem gap_sum (S : Nat → Bool) (l : List Pp) : gap S l = sumF (fun k => gp S (ppAt l k)) l.length := by
  have : ∀ n, n ≤ l.length → gap S (l.take n) = sumF (fun k => gp S (ppAt l k)) n := fun n => by
    induction n with
    | zero => intro _; simp [gap, sumF]
    | succ n ih =>
      intro h
      rw [List.take_succ_eq_append_getElem (by omega), gap_append, ih (by omega), ← ppAt_lt (by omega)]
      simp only [gap, sumF]
      omega
  have h1 := this l.length (Nat.le_refl _)
  rwa [List.take_length] at h1
theorem sumF_app (f : Nat → Int) (a b : Nat) : sumF f (a + b) = sumF f a + sumF (fun i => f (a + i)) b := by
  induction b with
  | zero => simp [sumF]
  | succ b ih => rw [← Nat.add_assoc]; simp only [sumF, ih]; omega
theorem gap_parts (S : Nat → Bool) : gap S (F8 np nl pl ls s0) = sumF (fun k => gp S (ppAt (F8 np nl pl ls s0) k)) (2 * nl) + sumF (fun j => gp S (ppAt (F8 np nl pl ls s0) (2 * nl + j))) (np + 1) := by
  rw [gap_sum, F8_len, Nat.add_assoc, sumF_app]
theorem pl_one (c : Ctx np nl pl ls) (t : Nat) {k : Nat} (hk : k < 2 * nl) : pLo t (-1) (opTo np ls s0 nl) k = -gp (SS np t) (ppAt (F8 np nl pl ls s0) k) ∧ pHi t (-1) (opTo np ls s0 nl) k = gp (nS (SS np t)) (ppAt (F8 np nl pl ls s0) k) ∧ pKs t (-1) (opTo np ls s0 nl) k = 0 := by
  obtain ⟨e1, e2, e3, e4⟩ := F8_pipe (s0 := s0) c t hk
  exact pipe_lo (by simp) rfl e1 e2 e3 e4
theorem bl_one (c : Ctx np nl pl ls) (t : Nat) {j : Nat} (hj : j < np + 1) : bLo t (-1) (opSt pl) j = -gp (SS np t) (ppAt (F8 np nl pl ls s0) (2 * nl + j)) ∧ bHi t (-1) (opSt pl) j = gp (nS (SS np t)) (ppAt (F8 np nl pl ls s0) (2 * nl + j)) := by
  obtain ⟨e1, e2, e3, e4⟩ := F8_place (s0 := s0) c t hj
  obtain ⟨f1, f2, -⟩ := bNone (t := t) (k := j) (st := opSt pl)
  rw [f1, f2, gp_enlv, gp_nenlv, e1, e2, e3, e4]
  cases hsB t (j : Int) <;> simp
theorem lo_none (c : Ctx np nl pl ls) (t : Nat) : loR (2 * nl) (np + 1) (opTo np ls s0 nl) (opSt pl) (-1) (-1) t = -gap (SS np t) (F8 np nl pl ls s0) := by
  rw [loR, gap_parts, sumF_congr fun j hj => (bl_one (s0 := s0) c t hj).1, sumF_congr fun k hk => (pl_one (s0 := s0) c t hk).1, sumF_neg, sumF_neg]
  omega
theorem hi_none (c : Ctx np nl pl ls) (t : Nat) : hiR (2 * nl) (np + 1) (opTo np ls s0 nl) (opSt pl) (-1) (-1) t = gap (nS (SS np t)) (F8 np nl pl ls s0) := by
  rw [hiR, gap_parts, sumF_congr fun j hj => (bl_one (s0 := s0) c t hj).2, sumF_congr fun k hk => (pl_one (s0 := s0) c t hk).2.1]
  omega
theorem ks_none (c : Ctx np nl pl ls) (t : Nat) : ksR (2 * nl) (np + 1) (opTo np ls s0 nl) (-1) (-1) t = 0 := by
  rw [ksR, sumF_zero _ fun j _ => (bNone (t := t) (k := j) (st := [])).2.2, sumF_zero _ fun k hk => (pl_one (s0 := s0) c t hk).2.2]
  rfl
/-- what is asked: a pipe of the net -/
structure Asked (np nl : Nat) (pl : List Sp) (ls : List Ln) (s0 : Nat) (free place : Int) (i : Nat) : Prop where
  len : i < (F8 np nl pl ls s0).length
  o : o0R (opTo np ls s0 nl) (opSt pl) free place = ⟨(ppAt (F8 np nl pl ls s0) i).lo, (ppAt (F8 np nl pl ls s0) i).hi⟩
  lo : ∀ t, loR (2 * nl) (np + 1) (opTo np ls s0 nl) (opSt pl) free place t = -gx (SS np t) (F8 np nl pl ls s0) i
  hi : ∀ t, hiR (2 * nl) (np + 1) (opTo np ls s0 nl) (opSt pl) free place t = gx (nS (SS np t)) (F8 np nl pl ls s0) i
  ks : ∀ t, ksR (2 * nl) (np + 1) (opTo np ls s0 nl) free place t = (bif enP (SS np t) (ppAt (F8 np nl pl ls s0) i) then 1 else 0) - (bif lvP (SS np t) (ppAt (F8 np nl pl ls s0) i) then 1 else 0)
theorem ask_pipe (c : Ctx np nl pl ls) {f : Nat} (hf : f < 2 * nl) : Asked np nl pl ls s0 (f : Int) (-1) f := by
  refine ⟨by rw [F8_len]; omega, ?_, fun t => ?_, fun t => ?_, fun t => ?_⟩
  · obtain ⟨-, -, e3, e4⟩ := F8_pipe (s0 := s0) c 0 hf
    rw [e3, e4]
    simp [o0R]
  · have h1 := lo_none (s0 := s0) c t
    have h2 := sumF_but (f := pLo t (f : Int) (opTo np ls s0 nl)) (g := pLo t (-1) (opTo np ls s0 nl)) hf fun k _ hk => (pOther hk).1
    obtain ⟨e1, e2, -, -⟩ := F8_pipe (s0 := s0) c t hf
    have h3 := (pKs_free (pp := opTo np ls s0 nl) rfl e1 e2).2.1
    have h4 := (pl_one (s0 := s0) c t hf).1
    rw [gx]
    simp only [loR] at h1 ⊢
    omega
  · have h1 := hi_none (s0 := s0) c t
    have h2 := sumF_but (f := pHi t (f : Int) (opTo np ls s0 nl)) (g := pHi t (-1) (opTo np ls s0 nl)) hf fun k _ hk => (pOther hk).2.1
    obtain ⟨e1, e2, -, -⟩ := F8_pipe (s0 := s0) c t hf
    have h3 := (pKs_free (pp := opTo np ls s0 nl) rfl e1 e2).2.2
    have h4 := (pl_one (s0 := s0) c t hf).2.1
    rw [gx]
    simp only [hiR] at h1 ⊢
    omega
  · have h1 := ks_none (s0 := s0) c t
    have h2 := sumF_but (f := pKs t (f : Int) (opTo np ls s0 nl)) (g := pKs t (-1) (opTo np ls s0 nl)) hf fun k _ hk => (pOther hk).2.2
    obtain ⟨e1, e2, -, -⟩ := F8_pipe (s0 := s0) c t hf
    have h3 := (pKs_free (pp := opTo np ls s0 nl) rfl e1 e2).1
    have h4 := (pl_one (s0 := s0) c t hf).2.2
    simp only [ksR] at h1 ⊢
    omega
theorem ask_place (c : Ctx np nl pl ls) {j : Nat} (hj : j < np + 1) : Asked np nl pl ls s0 (-1) (j : Int) (2 * nl + j) := by
  refine ⟨by rw [F8_len]; omega, ?_, fun t => ?_, fun t => ?_, fun t => ?_⟩
  · obtain ⟨-, -, e3, e4⟩ := F8_place (s0 := s0) c 0 hj
    rw [e3, e4]
    simp [o0R]
  · have h1 := lo_none (s0 := s0) c t
    have h2 := sumF_but (f := bLo t (j : Int) (opSt pl)) (g := bLo t (-1) (opSt pl)) hj fun k _ hk => (bOther hk).1
    have h3 := (bFree (t := t) (k := j) (st := opSt pl)).1
    have h4 := (bl_one (s0 := s0) c t hj).1
    rw [gx]
    simp only [loR] at h1 ⊢
    omega
  · have h1 := hi_none (s0 := s0) c t
    have h2 := sumF_but (f := bHi t (j : Int) (opSt pl)) (g := bHi t (-1) (opSt pl)) hj fun k _ hk => (bOther hk).2.1
    have h3 := (bFree (t := t) (k := j) (st := opSt pl)).2.1
    have h4 := (bl_one (s0 := s0) c t hj).2
    rw [gx]
    simp only [hiR] at h1 ⊢
    omega
  · have h1 := ks_none (s0 := s0) c t
    have h2 := sumF_but (f := bKs t (j : Int)) (g := bKs t (-1)) hj fun k _ hk => (bOther (st := opSt pl) hk).2.2
    have h3 := (bFree (t := t) (k := j) (st := opSt pl)).2.2
    have h4 := (bNone (t := t) (k := j) (st := opSt pl)).2.2
    obtain ⟨e1, e2, -, -⟩ := F8_place (s0 := s0) c t hj
    rw [e1, e2]
    simp only [ksR] at h1 ⊢
    cases e : hsB t (j : Int) <;> rw [e] at h3 <;> simp only [cond_true, cond_false] at h3 ⊢ <;> omega
/-- each set of nodes without the outside is, on the net, that of a set of places -/
theorem F8_nodes (c : Ctx np nl pl ls) {k : Nat} (hk : k < 2 * nl + np + 1) : ((ppAt (F8 np nl pl ls s0) k).fr.toNat < np ∨ (ppAt (F8 np nl pl ls s0) k).fr.toNat = 5 ∨ (ppAt (F8 np nl pl ls s0) k).fr.toNat = 6) ∧ ((ppAt (F8 np nl pl ls s0) k).to.toNat < np ∨ (ppAt (F8 np nl pl ls s0) k).to.toNat = 5 ∨ (ppAt (F8 np nl pl ls s0) k).to.toNat = 6) := by
  have hp := c.ok.hp
  have nz : ∀ n : Int, (n = -1 ∨ (0 ≤ n ∧ n < np)) → ((nodeZ n).toNat < np ∨ (nodeZ n).toNat = 5 ∨ (nodeZ n).toNat = 6) := fun n hn => by unfold nodeZ; split <;> omega
  by_cases h1 : k < 2 * nl
  · rw [F8_at (by omega)]
    obtain ⟨i, hi⟩ : ∃ i, k = 2 * i ∨ k = 2 * i + 1 := ⟨k / 2, by omega⟩
    rcases hi with rfl | rfl
    · rw [pp_w (by omega)]
      exact ⟨nz _ (c.inb.fr i (by omega)), nz _ (c.inb.to i (by omega))⟩
    · rw [pp_s (by omega)]
      exact ⟨nz _ (c.inb.to i (by omega)), .inr (.inr rfl)⟩
  · obtain ⟨j, rfl⟩ : ∃ j, k = 2 * nl + j := ⟨k - 2 * nl, by omega⟩
    by_cases h2 : j = np
    · subst h2
      rw [F8_h]
      exact ⟨.inr (.inr rfl), .inr (.inl rfl)⟩
    · rw [F8_at (by omega), pp_p (by omega)]
      exact ⟨.inl (by simp [pPp]; omega), .inr (.inl rfl)⟩
theorem cover (hp : np ≤ 5) (S : Nat → Bool) (h5 : S 5 = false) : ∃ t, t < 2 ^ (np + 1) ∧ ∀ v, (v < np ∨ v = 5 ∨ v = 6) → S v = SS np t v := by
  refine ⟨ofB (np + 1) fun v => if v = np then S 6 else S v, ofB_lt _ _, fun v hv => ?_⟩
  unfold SS
  rcases hv with hv | rfl | rfl
  · rw [if_neg (by omega), ofB_bit, if_neg (by omega)]
    simp [hv]; omega
  · rw [if_neg (by omega), h5]
    simp; omega
  · rw [if_pos rfl, ofB_bit, if_pos rfl]
    simp
theorem agree (c : Ctx np nl pl ls) {S T : Nat → Bool} (h : ∀ v, (v < np ∨ v = 5 ∨ v = 6) → S v = T v) {k : Nat} (hk : k < 2 * nl + np + 1) : enP S (ppAt (F8 np nl pl ls s0) k) = enP T (ppAt (F8 np nl pl ls s0) k) ∧ lvP S (ppAt (F8 np nl pl ls s0) k) = lvP T (ppAt (F8 np nl pl ls s0) k) ∧ gp S (ppAt (F8 np nl pl ls s0) k) = gp T (ppAt (F8 np nl pl ls s0) k) := by
  obtain ⟨h1, h2⟩ := F8_nodes (s0 := s0) c hk
  unfold enP lvP gp
  rw [h _ h1, h _ h2]
  exact ⟨rfl, rfl, rfl⟩
theorem agree_gap (c : Ctx np nl pl ls) {S T : Nat → Bool} (h : ∀ v, (v < np ∨ v = 5 ∨ v = 6) → S v = T v) : gap S (F8 np nl pl ls s0) = gap T (F8 np nl pl ls s0) := by
  rw [gap_sum, gap_sum]
  exact sumF_congr fun k hk => (agree c h (by rw [F8_len] at hk; exact hk)).2.2
theorem agree_gx (c : Ctx np nl pl ls) {S T : Nat → Bool} (h : ∀ v, (v < np ∨ v = 5 ∨ v = 6) → S v = T v) {i : Nat} (hi : i < (F8 np nl pl ls s0).length) : gx S (F8 np nl pl ls s0) i = gx T (F8 np nl pl ls s0) i := by
  rw [F8_len] at hi
  rw [gx, gx, agree_gap c h, (agree c h hi).2.2]
theorem nS_nS (S : Nat → Bool) : nS (nS S) = S := by funext v; simp [nS]
theorem en_nS (S : Nat → Bool) (p : Pp) : enP (nS S) p = lvP S p ∧ lvP (nS S) p = enP S p := by
  unfold enP lvP nS
  cases S p.fr.toNat <;> cases S p.to.toNat <;> exact ⟨rfl, rfl⟩
/-- what the specification reckons for the sets 1, .. -/
structure Outs (o0 : Sp) (K LO HI : Nat → Int) (o : Sp) (t : Nat) : Prop where
  l0 : o0.lo ≤ o.lo
  h0 : o.hi ≤ o0.hi
  l1 : ∀ s, 0 < s → s ≤ t → (0 < K s → LO s ≤ o.lo ∧ o.hi ≤ HI s) ∧ (K s < 0 → -HI s ≤ o.lo ∧ o.hi ≤ -LO s)
  l2 : ∀ x, o0.lo ≤ x → (∀ s, 0 < s → s ≤ t → (0 < K s → LO s ≤ x) ∧ (K s < 0 → -HI s ≤ x)) → o.lo ≤ x
  h2 : ∀ x, x ≤ o0.hi → (∀ s, 0 < s → s ≤ t → (0 < K s → x ≤ HI s) ∧ (K s < 0 → x ≤ -LO s)) → x ≤ o.hi
theorem Outs.step {o0 o q : Sp} {K LO HI : Nat → Int} {t : Nat} (ih : Outs o0 K LO HI o t) (hs : q = stepR (K (t + 1)) (LO (t + 1)) (HI (t + 1)) o) : Outs o0 K LO HI q (t + 1) := by
  obtain ⟨a1, a2, a3, a4, a5⟩ := ih
  generalize hk : K (t + 1) = k at hs
  generalize hl : LO (t + 1) = lo at hs
  generalize hh : HI (t + 1) = hi at hs
  have hq : (0 < k → q.lo = max o.lo lo ∧ q.hi = min o.hi hi) ∧ (k < 0 → q.lo = max o.lo (-hi) ∧ q.hi = min o.hi (-lo)) ∧ (k = 0 → q = o) := by
    refine ⟨fun h => ?_, fun h => ?_, fun h => ?_⟩
    · rw [hs, stepR, decide_eq_true h]; exact ⟨rfl, rfl⟩
    · rw [hs, stepR, decide_eq_false (by omega), decide_eq_true h]; exact ⟨rfl, rfl⟩
    · rw [hs, stepR, decide_eq_false (by omega), decide_eq_false (by omega)]; rfl
  have hle : o.lo ≤ q.lo ∧ q.hi ≤ o.hi := by
    rcases (by omega : 0 < k ∨ k < 0 ∨ k = 0) with h | h | h
    · have := hq.1 h; omega
    · have := hq.2.1 h; omega
    · rw [hq.2.2 h]; exact ⟨Int.le_refl _, Int.le_refl _⟩
  refine ⟨by omega, by omega, fun s h1 h2 => ?_, fun x h1 h2 => ?_, fun x h1 h2 => ?_⟩
  · by_cases e : s = t + 1
    · subst e
      rw [hk, hl, hh]
      refine ⟨fun h => ?_, fun h => ?_⟩
      · have := hq.1 h; omega
      · have := hq.2.1 h; omega
    · have := a3 s h1 (by omega)
      refine ⟨fun h => ?_, fun h => ?_⟩
      · have := this.1 h; omega
      · have := this.2 h; omega
  · have b1 := a4 x h1 fun s h3 h4 => h2 s h3 (by omega)
    have b2 := h2 (t + 1) (by omega) (Nat.le_refl _)
    rw [hk, hl, hh] at b2
    rcases (by omega : 0 < k ∨ k < 0 ∨ k = 0) with h | h | h
    · have := hq.1 h; have := b2.1 h; omega
    · have := hq.2.1 h; have := b2.2 h; omega
    · rw [hq.2.2 h]; exact b1
  · have b1 := a5 x h1 fun s h3 h4 => h2 s h3 (by omega)
    have b2 := h2 (t + 1) (by omega) (Nat.le_refl _)
    rw [hk, hl, hh] at b2
    rcases (by omega : 0 < k ∨ k < 0 ∨ k = 0) with h | h | h
    · have := hq.1 h; have := b2.1 h; omega
    · have := hq.2.1 h; have := b2.2 h; omega
    · rw [hq.2.2 h]; exact b1
theorem outs (m n : Nat) (pp : List Pp) (st : List Sp) (free place : Int) (t : Nat) : Outs (o0R pp st free place) (ksR m n pp free place) (loR m n pp st free place) (hiR m n pp st free place) (outR m n pp st free place t) t := by
  induction t with
  | zero => exact ⟨Int.le_refl _, Int.le_refl _, fun s h1 h2 => by omega, fun x h _ => h, fun x h _ => h⟩
  | succ t ih => exact ih.step rfl
theorem F8_lohi (c : Ctx np nl pl ls) : LoHi (F8 np nl pl ls s0) := by
  refine withPp_lohi ?_ (by omega)
  exact fun p hp => (flow_ok (ws := s0.testBit) c.ok p hp).2
/-- sets that a pipe enters, or leaves, are no empty ones -/
theorem pos_of_cross {t : Nat} {p : Pp} (hp : np ≤ 5) (h : enP (SS np t) p = true ∨ lvP (SS np t) p = true) : 0 < t := by
  rcases Nat.eq_zero_or_pos t with rfl | h0
  · have z : ∀ v, SS np 0 v = false := fun v => by unfold SS; split <;> simp
    unfold enP lvP at h
    rw [z, z] at h
    simp at h
  · exact h0
theorem bnd_low (c : Ctx np nl pl ls) {free place : Int} {i : Nat} (a : Asked np nl pl ls s0 free place i) (hc : Can (F8 np nl pl ls s0)) :
    IsLow (F8 np nl pl ls s0) i (outR (2 * nl) (np + 1) (opTo np ls s0 nl) (opSt pl) free place (2 ^ (np + 1) - 1)).lo ∧ IsHigh (F8 np nl pl ls s0) i (outR (2 * nl) (np + 1) (opTo np ls s0 nl) (opSt pl) free place (2 ^ (np + 1) - 1)).hi := by
  have hp := c.ok.hp
  obtain ⟨b1, b2, b3, b4, b5⟩ := outs (2 * nl) (np + 1) (opTo np ls s0 nl) (opSt pl) free place (2 ^ (np + 1) - 1)
  generalize outR (2 * nl) (np + 1) (opTo np ls s0 nl) (opSt pl) free place (2 ^ (np + 1) - 1) = o at *
  rw [a.o] at b1 b2 b4 b5
  have hlh : (ppAt (F8 np nl pl ls s0) i).lo ≤ (ppAt (F8 np nl pl ls s0) i).hi := by
    have := F8_lohi (s0 := s0) c
    rw [ppAt_lt a.len]
    exact this _ (List.getElem_mem _)
  have self : ∀ S, 0 ≤ gx S (F8 np nl pl ls s0) i + (bif enP S (ppAt (F8 np nl pl ls s0) i) then (ppAt (F8 np nl pl ls s0) i).hi else 0) - (bif lvP S (ppAt (F8 np nl pl ls s0) i) then (ppAt (F8 np nl pl ls s0) i).lo else 0) := fun S => by
    rw [← gap_self]; exact hc S
  have kz : ∀ t, (0 < ksR (2 * nl) (np + 1) (opTo np ls s0 nl) free place t → enP (SS np t) (ppAt (F8 np nl pl ls s0) i) = true) ∧ (ksR (2 * nl) (np + 1) (opTo np ls s0 nl) free place t < 0 → lvP (SS np t) (ppAt (F8 np nl pl ls s0) i) = true) := fun t => by
    rw [a.ks]
    cases enP (SS np t) (ppAt (F8 np nl pl ls s0) i) <;> cases lvP (SS np t) (ppAt (F8 np nl pl ls s0) i) <;> simp
  have ke : ∀ t, enP (SS np t) (ppAt (F8 np nl pl ls s0) i) = true → 0 < ksR (2 * nl) (np + 1) (opTo np ls s0 nl) free place t := fun t h => by
    rw [a.ks, h, en_lv _ _ h]; simp
  have kl : ∀ t, lvP (SS np t) (ppAt (F8 np nl pl ls s0) i) = true → ksR (2 * nl) (np + 1) (opTo np ls s0 nl) free place t < 0 := fun t h => by
    rw [a.ks, h, lv_en _ _ h]; simp
  -- what all sets say of the least
  have lowS : ∀ x, (∀ s, 0 < s → s ≤ 2 ^ (np + 1) - 1 → (0 < ksR (2 * nl) (np + 1) (opTo np ls s0 nl) free place s → loR (2 * nl) (np + 1) (opTo np ls s0 nl) (opSt pl) free place s ≤ x) ∧ (ksR (2 * nl) (np + 1) (opTo np ls s0 nl) free place s < 0 → -hiR (2 * nl) (np + 1) (opTo np ls s0 nl) (opSt pl) free place s ≤ x)) ↔ ∀ S, enP S (ppAt (F8 np nl pl ls s0) i) = true → 0 ≤ gx S (F8 np nl pl ls s0) i + x := fun x => by
    constructor
    · intro h S hS
      cases h5 : S 5
      · obtain ⟨t, ht, hv⟩ := cover hp S h5
        have e1 := (agree (s0 := s0) c hv (by have := a.len; rwa [F8_len] at this)).1
        rw [hS] at e1
        have e2 := agree_gx c hv a.len
        have h3 := (h t (pos_of_cross hp (.inl e1.symm)) (by omega)).1 (ke t e1.symm)
        rw [a.lo] at h3
        omega
      · obtain ⟨t, ht, hv⟩ := cover hp (nS S) (by simp [nS, h5])
        have e1 := (agree (s0 := s0) c hv (by have := a.len; rwa [F8_len] at this)).2.1
        rw [(en_nS S _).2, hS] at e1
        have hv' : ∀ v, (v < np ∨ v = 5 ∨ v = 6) → S v = nS (SS np t) v := fun v h => by have := hv v h; simp only [nS] at this ⊢; rw [← this, Bool.not_not]
        have e2 := agree_gx c hv' a.len
        have h3 := (h t (pos_of_cross hp (.inr e1.symm)) (by omega)).2 (kl t e1.symm)
        rw [a.hi] at h3
        omega
    · intro h s _ _
      refine ⟨fun hk => ?_, fun hk => ?_⟩
      · have := h _ ((kz s).1 hk)
        rw [a.lo]
        omega
      · have := h (nS (SS np s)) (by rw [(en_nS _ _).1]; exact (kz s).2 hk)
        rw [a.hi]
        omega
  have highS : ∀ x, (∀ s, 0 < s → s ≤ 2 ^ (np + 1) - 1 → (0 < ksR (2 * nl) (np + 1) (opTo np ls s0 nl) free place s → x ≤ hiR (2 * nl) (np + 1) (opTo np ls s0 nl) (opSt pl) free place s) ∧ (ksR (2 * nl) (np + 1) (opTo np ls s0 nl) free place s < 0 → x ≤ -loR (2 * nl) (np + 1) (opTo np ls s0 nl) (opSt pl) free place s)) ↔ ∀ S, lvP S (ppAt (F8 np nl pl ls s0) i) = true → 0 ≤ gx S (F8 np nl pl ls s0) i - x := fun x => by
    constructor
    · intro h S hS
      cases h5 : S 5
      · obtain ⟨t, ht, hv⟩ := cover hp S h5
        have e1 := (agree (s0 := s0) c hv (by have := a.len; rwa [F8_len] at this)).2.1
        rw [hS] at e1
        have e2 := agree_gx c hv a.len
        have h3 := (h t (pos_of_cross hp (.inr e1.symm)) (by omega)).2 (kl t e1.symm)
        rw [a.lo] at h3
        omega
      · obtain ⟨t, ht, hv⟩ := cover hp (nS S) (by simp [nS, h5])
        have e1 := (agree (s0 := s0) c hv (by have := a.len; rwa [F8_len] at this)).1
        rw [(en_nS S _).1, hS] at e1
        have hv' : ∀ v, (v < np ∨ v = 5 ∨ v = 6) → S v = nS (SS np t) v := fun v h => by have := hv v h; simp only [nS] at this ⊢; rw [← this, Bool.not_not]
        have e2 := agree_gx c hv' a.len
        have h3 := (h t (pos_of_cross hp (.inl e1.symm)) (by omega)).1 (ke t e1.symm)
        rw [a.hi] at h3
        omega
    · intro h s _ _
      refine ⟨fun hk => ?_, fun hk => ?_⟩
      · have := h (nS (SS np s)) (by rw [(en_nS _ _).2]; exact (kz s).1 hk)
        rw [a.hi]
        omega
      · have := h _ ((kz s).2 hk)
        rw [a.lo]
        omega
  have okL : ∀ S, enP S (ppAt (F8 np nl pl ls s0) i) = true → 0 ≤ gx S (F8 np nl pl ls s0) i + (ppAt (F8 np nl pl ls s0) i).hi := fun S hS => by
    have := self S
    rw [hS, en_lv _ _ hS] at this
    simpa using this
  have okH : ∀ S, lvP S (ppAt (F8 np nl pl ls s0) i) = true → 0 ≤ gx S (F8 np nl pl ls s0) i - (ppAt (F8 np nl pl ls s0) i).lo := fun S hS => by
    have := self S
    rw [hS, lv_en _ _ hS] at this
    simpa using this
  have c1 : ∀ S, enP S (ppAt (F8 np nl pl ls s0) i) = true → 0 ≤ gx S (F8 np nl pl ls s0) i + o.lo := (lowS o.lo).1 fun s h1 h2 => ⟨fun h => ((b3 s h1 h2).1 h).1, fun h => ((b3 s h1 h2).2 h).1⟩
  have c2 : ∀ S, lvP S (ppAt (F8 np nl pl ls s0) i) = true → 0 ≤ gx S (F8 np nl pl ls s0) i - o.hi := (highS o.hi).1 fun s h1 h2 => ⟨fun h => ((b3 s h1 h2).1 h).2, fun h => ((b3 s h1 h2).2 h).2⟩
  refine ⟨⟨b1, b4 _ hlh ((lowS _).2 okL), (can_low a.len hc (Int.le_refl _)).2 c1, fun x hx hcx => b4 x hx ((lowS x).2 ((can_low a.len hc (Int.le_refl _)).1 hcx))⟩,
    ⟨b5 _ hlh ((highS _).2 okH), b2, (can_high a.len hc (Int.le_refl _)).2 c2, fun x hx hcx => b5 x hx ((highS x).2 ((can_high a.len hc (Int.le_refl _)).1 hcx))⟩⟩
end

section
variable {np nl s0 : Nat} {pl : List Sp} {ls : List Ln} {wrg : Int}
theorem can_F8 (c : Ctx np nl pl ls) : Can (F8 np nl pl ls s0) ↔ Can (flowL np nl pl ls s0.testBit) := by
  have h := heap_free (R := Ra np nl pl ls s0.testBit) (B := nl * 999) (x := 0) (H := nl * 999) (H' := 7992) (fun S => Ra_w6 c.ok S) (Int.le_refl _) (by have := c.ok.hl; omega)
  unfold Can
  refine Iff.trans (Iff.trans ?_ h) ?_
  · exact ⟨fun g S => by rw [← gap_F8]; exact g S, fun g S => by rw [gap_F8]; exact g S⟩
  · exact ⟨fun g S => by rw [gap_Ra]; exact g S, fun g S => by have := g S; rw [gap_Ra] at this; exact this⟩
theorem gap_empty (l : List Pp) {S : Nat → Bool} (b : Bool) (h : ∀ v, S v = b) : gap S l = 0 := by
  induction l with
  | nil => rfl
  | cons p l ih => simp only [gap, ih, gp, h]; cases b <;> simp
theorem outR_none (c : Ctx np nl pl ls) (t : Nat) : outR (2 * nl) (np + 1) (opTo np ls s0 nl) (opSt pl) (-1) (-1) t = ⟨0, 0⟩ := by
  induction t with
  | zero => rfl
  | succ t ih => rw [outR, ks_none c, ih]; rfl
theorem any_bad (c : Ctx np nl pl ls) (free place : Int) (h : ∀ t, ksR (2 * nl) (np + 1) (opTo np ls s0 nl) free place t = 0 → loR (2 * nl) (np + 1) (opTo np ls s0 nl) (opSt pl) free place t ≤ 0 ∧ 0 ≤ hiR (2 * nl) (np + 1) (opTo np ls s0 nl) (opSt pl) free place t) : anyBad (2 * nl) (np + 1) (opTo np ls s0 nl) (opSt pl) free place = false := by
  refine anyN_no fun k _ => ?_
  unfold badR
  cases hk : ksR (2 * nl) (np + 1) (opTo np ls s0 nl) free place (k + 1) == 0
  · rfl
  · have := h (k + 1) (by simpa using hk)
    simp; omega
theorem rCan_iff (c : Ctx np nl pl ls) : rCan np nl pl ls s0 = true ↔ Can (flowL np nl pl ls s0.testBit) := by
  have hp := c.ok.hp
  rw [← can_F8 c]
  unfold rCan bndB
  rw [outR_none c]
  constructor
  · intro h S
    simp only [Bool.and_eq_true, Bool.not_eq_true'] at h
    have hb : ∀ t, 0 < t → t < 2 ^ (np + 1) → 0 ≤ gap (SS np t) (F8 np nl pl ls s0) ∧ 0 ≤ gap (nS (SS np t)) (F8 np nl pl ls s0) := fun t h0 h1 => by
      refine Classical.byContradiction fun hn => ?_
      have : anyBad (2 * nl) (np + 1) (opTo np ls s0 nl) (opSt pl) (-1) (-1) = true := by
        refine anyN_yes (k := t - 1) (by omega) ?_
        rw [show t - 1 + 1 = t by omega]
        unfold badR
        rw [ks_none c, lo_none c, hi_none c]
        simp; omega
      rw [this] at h
      cases h.1
    have hb0 : ∀ t, t < 2 ^ (np + 1) → 0 ≤ gap (SS np t) (F8 np nl pl ls s0) ∧ 0 ≤ gap (nS (SS np t)) (F8 np nl pl ls s0) := fun t h1 => by
      rcases Nat.eq_zero_or_pos t with rfl | h0
      · rw [gap_empty _ (S := SS np 0) false (fun v => by unfold SS; split <;> simp), gap_empty _ (S := nS (SS np 0)) true (fun v => by unfold nS SS; split <;> simp)]
        exact ⟨Int.le_refl _, Int.le_refl _⟩
      · exact hb t h0 h1
    cases h5 : S 5
    · obtain ⟨t, ht, hv⟩ := cover hp S h5
      rw [agree_gap c hv]
      exact (hb0 t ht).1
    · obtain ⟨t, ht, hv⟩ := cover hp (nS S) (by simp [nS, h5])
      have hv' : ∀ v, (v < np ∨ v = 5 ∨ v = 6) → S v = nS (SS np t) v := fun v h => by have := hv v h; simp only [nS] at this ⊢; rw [← this, Bool.not_not]
      rw [agree_gap c hv']
      exact (hb0 t ht).2
  · intro h
    rw [any_bad c (-1) (-1) fun t _ => by
      rw [lo_none c, hi_none c]
      have h1 := h (SS np t)
      have h2 := h (nS (SS np t))
      omega]
    rfl
/-- the bounds, where the net can be -/
theorem bnd_out (c : Ctx np nl pl ls) {free place : Int} {i : Nat} (a : Asked np nl pl ls s0 free place i) (hc : Can (F8 np nl pl ls s0)) :
    bndS (2 * nl) (np + 1) (opTo np ls s0 nl) (opSt pl) free place = outR (2 * nl) (np + 1) (opTo np ls s0 nl) (opSt pl) free place (2 ^ (np + 1) - 1) := by
  unfold bndS
  rw [any_bad c free place fun t hk => ?_]
  · rfl
  · rw [a.ks] at hk
    rw [a.lo, a.hi]
    have h1 := hc (SS np t)
    have h2 := hc (nS (SS np t))
    rw [gap_self (i := i)] at h1 h2
    rw [(en_nS _ _).1, (en_nS _ _).2] at h2
    have h3 := en_lv (SS np t) (ppAt (F8 np nl pl ls s0) i)
    cases e1 : enP (SS np t) (ppAt (F8 np nl pl ls s0) i) <;> cases e2 : lvP (SS np t) (ppAt (F8 np nl pl ls s0) i) <;> simp [e1, e2] at h1 h2 h3 hk ⊢
    omega
/-- a pipe that touches the heap not may be changed in both nets alike -/
theorem can_with8 (c : Ctx np nl pl ls) {i : Nat} (hi : i < 2 * nl + np) (h6 : (ppAt (flowL np nl pl ls s0.testBit) i).fr.toNat ≠ 6 ∧ (ppAt (flowL np nl pl ls s0.testBit) i).to.toNat ≠ 6) (x y : Int) :
    Can (withPp (F8 np nl pl ls s0) i x y) ↔ Can (withPp (flowL np nl pl ls s0.testBit) i x y) := by
  have hl := c.ok.hl
  rw [can_set (by rw [F8_len]; omega), can_set (by rw [flow_len]; omega), F8_at hi]
  generalize ppAt (flowL np nl pl ls s0.testBit) i = p at *
  show (∀ S, 0 ≤ gap S (F8 np nl pl ls s0) - gp S p + gp S ⟨p.fr, p.to, x, y⟩) ↔ ∀ S, 0 ≤ gap S (flowL np nl pl ls s0.testBit) - gp S p + gp S ⟨p.fr, p.to, x, y⟩
  have h := heap_free (R := fun S => Ra np nl pl ls s0.testBit S - gp S p + gp S ⟨p.fr, p.to, x, y⟩) (B := nl * 999) (x := 0) (H := nl * 999) (H' := 7992) (fun S => by
    have e1 := Ra_w6 (ws := s0.testBit) c.ok S
    have e2 : gp (w6 S) p = gp S p := gp_w6_eq h6.1 h6.2
    have e3 : gp (w6 S) ⟨p.fr, p.to, x, y⟩ = gp S ⟨p.fr, p.to, x, y⟩ := gp_w6_eq h6.1 h6.2
    omega) (Int.le_refl _) (by omega)
  refine Iff.trans (Iff.trans ?_ h) ?_
  · exact ⟨fun g S => by have := g S; rw [gap_F8] at this; omega, fun g S => by have := g S; rw [gap_F8]; omega⟩
  · exact ⟨fun g S => by have := g S; rw [gap_Ra]; dsimp only [hPp] at this ⊢; omega, fun g S => by have := g S; rw [gap_Ra] at this; dsimp only [hPp] at this ⊢; omega⟩
theorem sp_eq {a b : Sp} (h1 : a.lo = b.lo) (h2 : a.hi = b.hi) : a = b := by cases a; cases b; simp_all
/-- the specification's bounds of a pipe off the heap -/
theorem bnd_ends (c : Ctx np nl pl ls) {free place : Int} {i : Nat} (a : Asked np nl pl ls s0 free place i) (hi : i < 2 * nl + np) (h6 : (ppAt (flowL np nl pl ls s0.testBit) i).fr.toNat ≠ 6 ∧ (ppAt (flowL np nl pl ls s0.testBit) i).to.toNat ≠ 6) (hc : Can (flowL np nl pl ls s0.testBit)) :
    rBnd np nl pl ls free place s0 = endsS np nl pl ls i s0 := by
  have hc8 := (can_F8 c).2 hc
  obtain ⟨L, H⟩ := bnd_low c a hc8
  have L' := endsP_low (l := flowL np nl pl ls s0.testBit) (i := i) (by rw [flow_len]; omega) (flow_nodes c.ok) (flow_lohi c.ok) hc
  have H' := endsP_high (l := flowL np nl pl ls s0.testBit) (i := i) (by rw [flow_len]; omega) (flow_nodes c.ok) (flow_lohi c.ok) hc
  have e := F8_at (s0 := s0) (pl := pl) (ls := ls) hi
  have lo := low_eq L L' (by rw [e]) fun x _ _ => by rw [e]; exact can_with8 c hi h6 _ _
  have hh := high_eq H H' (by have := H.hi; rwa [e] at this) (by rw [e]; exact H'.hi) fun x _ _ _ => by rw [e]; exact can_with8 c hi h6 _ _
  rw [flow_len] at lo hh
  rw [rBnd, bnd_out c a hc8]
  exact sp_eq lo hh
theorem bnd_line (c : Ctx np nl pl ls) {k : Nat} (hk : k < nl) (hc : Can (flowL np nl pl ls s0.testBit)) : rBnd np nl pl ls ((2 * k : Nat) : Int) (-1) s0 = endsS np nl pl ls (2 * k) s0 := by
  obtain ⟨a1, a2, a3, a4, -⟩ := c.ok.ln k
  refine bnd_ends c (ask_pipe c (by omega)) (by omega) ?_ hc
  rw [pp_w hk]
  exact ⟨nodeZ_6 _ a1 a2, nodeZ_6 _ a3 a4⟩
theorem bnd_place (c : Ctx np nl pl ls) {j : Nat} (hj : j < np) (hc : Can (flowL np nl pl ls s0.testBit)) : rBnd np nl pl ls (-1) (j : Int) s0 = endsS np nl pl ls (2 * nl + j) s0 := by
  have := c.ok.hp
  refine bnd_ends c (ask_place c (by omega)) (by omega) ?_ hc
  rw [pp_p hj]
  exact ⟨by simp [pPp]; omega, by simp [pPp]⟩
theorem with_with {l : List Pp} {i : Nat} (hi : i < l.length) (a b x y : Int) : withPp (withPp l i a b) i x y = withPp l i x y := by
  have e : ppAt (withPp l i a b) i = { ppAt l i with lo := a, hi := b } := by rw [withPp_at _ _ _ _ _ hi, if_pos rfl]
  unfold withPp at e ⊢
  rw [e, List.set_set]
theorem bnd_heap (c : Ctx np nl pl ls) (hc : Can (flowL np nl pl ls s0.testBit)) : rBnd np nl pl ls (-1) (np : Int) s0 = endsS np nl pl ls (2 * nl + np) s0 := by
  have hl := c.ok.hl
  have hlen : 2 * nl + np < (flowL np nl pl ls s0.testBit).length := by rw [flow_len]; omega
  have hc8 := (can_F8 c).2 hc
  have a := ask_place (s0 := s0) c (show np < np + 1 by omega)
  obtain ⟨L, H⟩ := bnd_low c a hc8
  have L' := endsP_low (l := flowL np nl pl ls s0.testBit) (i := 2 * nl + np) hlen (flow_nodes c.ok) (flow_lohi c.ok) hc
  have H' := endsP_high (l := flowL np nl pl ls s0.testBit) (i := 2 * nl + np) hlen (flow_nodes c.ok) (flow_lohi c.ok) hc
  have e8 := F8_h (s0 := s0) (np := np) (nl := nl) (pl := pl) (ls := ls)
  have e9 : ppAt (flowL np nl pl ls s0.testBit) (2 * nl + np) = hPp (nl * 999) := pp_h
  have hw : ∀ x y, withPp (F8 np nl pl ls s0) (2 * nl + np) x y = withPp (flowL np nl pl ls s0.testBit) (2 * nl + np) x y := fun x y => with_with hlen 0 7992 x y
  have free : ∀ x, Can (withPp (flowL np nl pl ls s0.testBit) (2 * nl + np) x 7992) ↔ Can (withPp (flowL np nl pl ls s0.testBit) (2 * nl + np) x (nl * 999)) := fun x => by
    have h := heap_free (R := Ra np nl pl ls s0.testBit) (B := nl * 999) (x := x) (H := nl * 999) (H' := 7992) (fun S => Ra_w6 c.ok S) (Int.le_refl _) (by omega)
    rw [can_set hlen, can_set hlen, e9]
    refine Iff.trans (Iff.trans ?_ h) ?_
    · exact ⟨fun g S => by have := g S; rw [gap_Ra] at this; dsimp only [hPp] at this ⊢; omega, fun g S => by have := g S; rw [gap_Ra]; dsimp only [hPp] at this ⊢; omega⟩
    · exact ⟨fun g S => by have := g S; rw [gap_Ra]; dsimp only [hPp] at this ⊢; omega, fun g S => by have := g S; rw [gap_Ra] at this; dsimp only [hPp] at this ⊢; omega⟩
  have lo := low_eq L L' (by rw [e8, e9]; rfl) fun x _ _ => by rw [hw]
  have h7 := H.can
  rw [hw] at h7
  have hmost := heap_most c.ok h7
  have hh := high_eq H H' (by rw [e9]; exact hmost) (by rw [e8]; have := H'.hi; rw [e9] at this; simp only [hPp] at this; dsimp only; omega) fun x _ _ _ => by
    rw [hw, e8, e9]
    exact free x
  rw [flow_len] at lo hh
  rw [rBnd, bnd_out c a hc8]
  exact sp_eq lo hh
/-- a set of lines, as the specification and the program see it -/
theorem mem_loL (c : Ctx np nl pl ls) {s : Nat} {most : Int} : s ∈ loL np nl pl ls most ↔ s < 2 ^ nl ∧ (cntF nl s.testBit : Int) ≤ most ∧ Can (flowL np nl pl ls s.testBit) := by
  have hl := c.ok.hl
  unfold loL loK loB
  rw [List.mem_filter, List.mem_range, Bool.and_eq_true, decide_eq_true_eq, rCan_iff c]
  constructor
  · rintro ⟨h1, h2, h3⟩
    rw [cnt8 hl h1] at h2
    exact ⟨h1, h2, h3⟩
  · rintro ⟨h1, h2, h3⟩
    rw [cnt8 hl h1]
    exact ⟨h1, h2, h3⟩
/-- from a set to one of more lines -/
theorem sets_sub (c : Ctx np nl pl ls) {s m : Nat} (hcan : Can (flowL np nl pl ls s.testBit)) (h1 : cntF nl s.testBit ≤ m) (h2 : m ≤ nl) :
    ∃ s', s' ∈ netSets np nl pl ls (m : Int) ∧ s' < 2 ^ nl ∧ (∀ i, i < nl → s.testBit i = true → s'.testBit i = true) := by
  have hl := c.ok.hl
  obtain ⟨g, g1, g2⟩ := more_set nl s.testBit m h1 h2
  have hb : ∀ i, i < nl → (ofB nl g).testBit i = g i := fun i hi => by rw [ofB_bit]; simp [hi]
  have hW := flow_wider (BkWider.refl np nl pl ls) c.ok c.ok (f := s.testBit) (g := (ofB nl g).testBit) (fun i hi e => by rw [hb i hi]; exact g1 i hi e)
  exact ⟨ofB nl g, mem_netSets hl (ofB_lt nl g) (by rw [cntF_congr hb]; exact g2) c.ok (hW.can (flow_nodes c.ok) (flow_nodes c.ok) hcan), ofB_lt nl g, fun i hi e => by rw [hb i hi]; exact g1 i hi e⟩
theorem truth_in (c : Ctx np nl pl ls) (h0 : 0 ≤ wrg) {s : Nat} (h : s ∈ truthSets np nl pl ls wrg) : s ∈ loL np nl pl ls wrg := by
  obtain ⟨m, hm⟩ : ∃ m : Nat, min wrg (nl : Int) = m := ⟨(min wrg (nl : Int)).toNat, by omega⟩
  unfold truthSets at h
  rw [hm] at h
  obtain ⟨a1, a2, a3⟩ := mem_sets c.ok.hl c.ok h
  exact (mem_loL c).2 ⟨a1, by omega, a3⟩
theorem truth_of (c : Ctx np nl pl ls) (h0 : 0 ≤ wrg) {s : Nat} (h : s ∈ loL np nl pl ls wrg) : ∃ s', s' ∈ truthSets np nl pl ls wrg ∧ ∀ i, i < nl → s.testBit i = true → s'.testBit i = true := by
  obtain ⟨a1, a2, a3⟩ := (mem_loL c).1 h
  obtain ⟨m, hm⟩ : ∃ m : Nat, min wrg (nl : Int) = m := ⟨(min wrg (nl : Int)).toNat, by omega⟩
  have := cntF_le nl s.testBit
  obtain ⟨s', h1, -, h3⟩ := sets_sub c a3 (m := m) (by omega) (by omega)
  exact ⟨s', by unfold truthSets; rw [hm]; exact h1, h3⟩
theorem empty_iff (c : Ctx np nl pl ls) (h0 : 0 ≤ wrg) : (loL np nl pl ls wrg).isEmpty = (truthSets np nl pl ls wrg).isEmpty := by
  cases h : truthSets np nl pl ls wrg with
  | nil =>
    cases h' : loL np nl pl ls wrg with
    | nil => rfl
    | cons x l =>
      obtain ⟨s', h1, -⟩ := truth_of c h0 (s := x) (by rw [h']; simp)
      rw [h] at h1
      simp at h1
  | cons x l =>
    have h1 := truth_in c h0 (s := x) (by rw [h]; simp)
    cases h' : loL np nl pl ls wrg with
    | nil => rw [h'] at h1; simp at h1
    | cons y m => rfl
theorem ask_eq (lp : pl.length = np) (ll : ls.length = nl) (is : Bool) : askF np nl pl ls wrg is = askZ np nl pl ls wrg is := by
  unfold askF askZ
  cases hck : ckBk np nl pl ls wrg
  · rfl
  · obtain ⟨hok, h0, -⟩ := okBk_of lp ll hck
    rw [empty_iff ⟨hok, inBk_of hck, lp, ll⟩ h0]
theorem ctx_of (lp : pl.length = np) (ll : ls.length = nl) (hck : ckBk np nl pl ls wrg = true) : Ctx np nl pl ls := ⟨(okBk_of lp ll hck).1, inBk_of hck, lp, ll⟩
theorem endF_eq (c : Ctx np nl pl ls) (h0 : 0 ≤ wrg) (hne : truthSets np nl pl ls wrg ≠ []) {free place : Int} {i : Nat} (hi : i < 2 * nl + np + 1) (hb : ∀ s, Can (flowL np nl pl ls s.testBit) → rBnd np nl pl ls free place s = endsS np nl pl ls i s) :
    endF np nl pl ls wrg free place = endsB np nl pl ls wrg i := by
  have hne' : (truthSets np nl pl ls wrg).map (endsS np nl pl ls i) ≠ [] := by simpa using hne
  have hnl : loL np nl pl ls wrg ≠ [] := by
    obtain ⟨s, hs⟩ := List.exists_mem_of_ne_nil _ hne
    intro e
    have := truth_in c h0 hs
    rw [e] at this
    simp at this
  have em : (loL np nl pl ls wrg).map (rBnd np nl pl ls free place) = (loL np nl pl ls wrg).map (endsS np nl pl ls i) := List.map_congr_left fun s hs => hb s ((mem_loL c).1 hs).2.2
  have hnl' : (loL np nl pl ls wrg).map (endsS np nl pl ls i) ≠ [] := by simpa using hnl
  rw [endF, em, endsB]
  have each : ∀ s ∈ loL np nl pl ls wrg, (hull ((truthSets np nl pl ls wrg).map (endsS np nl pl ls i))).lo ≤ (endsS np nl pl ls i s).lo ∧ (endsS np nl pl ls i s).hi ≤ (hull ((truthSets np nl pl ls wrg).map (endsS np nl pl ls i))).hi := fun s hs => by
    obtain ⟨s', h1, h2⟩ := truth_of c h0 hs
    have hW := flow_wider (BkWider.refl np nl pl ls) c.ok c.ok (f := s.testBit) (g := s'.testBit) h2
    have e := ends_wider hW (flow_nodes c.ok) (flow_nodes c.ok) (flow_lohi c.ok) (flow_lohi c.ok) ((mem_loL c).1 hs).2.2 (i := i) (by rw [flow_len]; exact hi)
    rw [flow_len] at e
    rw [flow_len] at e
    have h := hull_mem (l := (truthSets np nl pl ls wrg).map (endsS np nl pl ls i)) (x := endsS np nl pl ls i s') (List.mem_map.2 ⟨s', h1, rfl⟩)
    exact ⟨Int.le_trans h.1 e.1, Int.le_trans e.2 h.2⟩
  have a1 : (hull ((truthSets np nl pl ls wrg).map (endsS np nl pl ls i))).lo ≤ (hull ((loL np nl pl ls wrg).map (endsS np nl pl ls i))).lo := hull_low hnl' fun x hx => by
    obtain ⟨s, hs, rfl⟩ := List.mem_map.1 hx
    exact (each s hs).1
  have a2 : (hull ((loL np nl pl ls wrg).map (endsS np nl pl ls i))).hi ≤ (hull ((truthSets np nl pl ls wrg).map (endsS np nl pl ls i))).hi := hull_high hnl' fun x hx => by
    obtain ⟨s, hs, rfl⟩ := List.mem_map.1 hx
    exact (each s hs).2
  have b1 : (hull ((loL np nl pl ls wrg).map (endsS np nl pl ls i))).lo ≤ (hull ((truthSets np nl pl ls wrg).map (endsS np nl pl ls i))).lo := hull_low hne' fun x hx => by
    obtain ⟨s, hs, rfl⟩ := List.mem_map.1 hx
    exact (hull_mem (List.mem_map.2 ⟨s, truth_in c h0 hs, rfl⟩)).1
  have b2 : (hull ((truthSets np nl pl ls wrg).map (endsS np nl pl ls i))).hi ≤ (hull ((loL np nl pl ls wrg).map (endsS np nl pl ls i))).hi := hull_high hne' fun x hx => by
    obtain ⟨s, hs, rfl⟩ := List.mem_map.1 hx
    exact (hull_mem (List.mem_map.2 ⟨s, truth_in c h0 hs, rfl⟩)).2
  exact sp_eq (by omega) (by omega)
theorem line_eq (lp : pl.length = np) (ll : ls.length = nl) (i : Int) : ansS (askF np nl pl ls wrg (isNo i nl)) (endF np nl pl ls wrg (2 * i) (-1)) = ansS (askZ np nl pl ls wrg (isNo i nl)) (endsB np nl pl ls wrg (2 * i.toNat)) := by
  rw [ask_eq lp ll]
  cases h : askZ np nl pl ls wrg (isNo i nl) == 0
  · simp only [ansS, h]; rfl
  · have h' : askZ np nl pl ls wrg (isNo i nl) = 0 := by simpa using h
    obtain ⟨hck, hno, hne⟩ := askZ_zero h'
    obtain ⟨k, rfl, hk⟩ := isNo_of hno
    have h0 := (okBk_of lp ll hck).2.1
    have e := endF_eq (ctx_of lp ll hck) h0 (fun e => by rw [e] at hne; simp at hne) (free := ((2 * k : Nat) : Int)) (place := -1) (i := 2 * k) (by omega) fun s hs => bnd_line (ctx_of lp ll hck) hk hs
    rw [show (2 * (k : Int)) = ((2 * k : Nat) : Int) by omega, e]
    rfl
theorem stock_eq (lp : pl.length = np) (ll : ls.length = nl) (i : Int) : ansS (askF np nl pl ls wrg (isNo i np)) (endF np nl pl ls wrg (-1) i) = ansS (askZ np nl pl ls wrg (isNo i np)) (endsB np nl pl ls wrg (2 * nl + i.toNat)) := by
  rw [ask_eq lp ll]
  cases h : askZ np nl pl ls wrg (isNo i np) == 0
  · simp only [ansS, h]; rfl
  · have h' : askZ np nl pl ls wrg (isNo i np) = 0 := by simpa using h
    obtain ⟨hck, hno, hne⟩ := askZ_zero h'
    obtain ⟨k, rfl, hk⟩ := isNo_of hno
    have h0 := (okBk_of lp ll hck).2.1
    have e := endF_eq (ctx_of lp ll hck) h0 (fun e => by rw [e] at hne; simp at hne) (free := -1) (place := (k : Int)) (i := 2 * nl + k) (by omega) fun s hs => bnd_place (ctx_of lp ll hck) hk hs
    rw [e]
    rfl
theorem lost_eq (lp : pl.length = np) (ll : ls.length = nl) : ansS (askF np nl pl ls wrg true) (endF np nl pl ls wrg (-1) np) = ansS (askZ np nl pl ls wrg true) (endsB np nl pl ls wrg (2 * nl + np)) := by
  rw [ask_eq lp ll]
  cases h : askZ np nl pl ls wrg true == 0
  · simp only [ansS, h]; rfl
  · have h' : askZ np nl pl ls wrg true = 0 := by simpa using h
    obtain ⟨hck, -, hne⟩ := askZ_zero h'
    have h0 := (okBk_of lp ll hck).2.1
    have e := endF_eq (ctx_of lp ll hck) h0 (fun e => by rw [e] at hne; simp at hne) (free := -1) (place := (np : Int)) (i := 2 * nl + np) (by omega) fun s hs => bnd_heap (ctx_of lp ll hck) hs
    rw [e]
theorem minC_spec (l : List Nat) (n : Nat) : (minC n l = n ∨ ∃ s ∈ l, minC n l = cnt 8 s) ∧ ∀ s ∈ l, minC n l ≤ cnt 8 s := by
  induction l generalizing n with
  | nil => exact ⟨.inl rfl, fun s h => by simp at h⟩
  | cons x l ih =>
    have e : minC n (x :: l) = minC (min n (cnt 8 x)) l := rfl
    obtain ⟨h1, h2⟩ := ih (min n (cnt 8 x))
    rw [e]
    refine ⟨?_, fun s hs => ?_⟩
    · rcases h1 with h1 | ⟨s, hs, h1⟩
      · rcases Nat.le_total n (cnt 8 x) with h | h
        · left; omega
        · right; exact ⟨x, by simp, by omega⟩
      · right; exact ⟨s, by simp [hs], h1⟩
    · rcases List.mem_cons.1 hs with rfl | hs
      · have := minC_le (min n (cnt 8 s)) l; omega
      · exact h2 s hs
theorem few_eq (lp : pl.length = np) (ll : ls.length = nl) : fewF np nl pl ls wrg = fewR np nl pl ls wrg := by
  unfold fewF fewR
  cases hck : ckBk np nl pl ls wrg
  · rfl
  · have c := ctx_of lp ll hck
    have hl := c.ok.hl
    simp only [cond_true]
    cases hL : loL np nl pl ls nl with
    | nil =>
      have : fewL np nl pl ls = none := fewL_none fun j hj => by
        cases hj' : netSets np nl pl ls (j : Int) with
        | nil => rfl
        | cons x l =>
          obtain ⟨a1, a2, a3⟩ := mem_sets hl c.ok (m := j) (s := x) (by rw [hj']; simp)
          have := (mem_loL c (most := (nl : Int))).2 ⟨a1, by omega, a3⟩
          rw [hL] at this
          simp at this
      rw [this]
      rfl
    | cons x l =>
      obtain ⟨h1, h2⟩ := minC_spec (x :: l) nl
      rw [← hL] at h1 h2 ⊢
      have hex : ∃ s ∈ loL np nl pl ls nl, minC nl (loL np nl pl ls nl) = cnt 8 s := by
        rcases h1 with h1 | h1
        · have hx : x ∈ loL np nl pl ls nl := by rw [hL]; simp
          have h3 := h2 x hx
          obtain ⟨a1, a2, a3⟩ := (mem_loL c).1 hx
          rw [← cnt8 hl a1] at a2
          exact ⟨x, hx, by omega⟩
        · exact h1
      obtain ⟨s, hs, he⟩ := hex
      obtain ⟨a1, a2, a3⟩ := (mem_loL c).1 hs
      have e : fewL np nl pl ls = some (minC nl (loL np nl pl ls nl)) := by
        refine fewL_some (minC_le _ _) (fun j hj => ?_) fun e => ?_
        · cases hj' : netSets np nl pl ls (j : Int) with
          | nil => rfl
          | cons y m =>
            obtain ⟨b1, b2, b3⟩ := mem_sets hl c.ok (m := j) (s := y) (by rw [hj']; simp)
            have h4 := minC_le nl (loL np nl pl ls nl)
            have h5 := h2 y ((mem_loL c).2 ⟨b1, by omega, b3⟩)
            rw [cnt8 hl b1] at h5
            omega
        · have := mem_netSets hl a1 (m := minC nl (loL np nl pl ls nl)) (by rw [he, cnt8 hl a1]) c.ok a3
          rw [e] at this
          simp at this
      rw [e]
      rw [hL]
      rfl
end

end Go.Proofs.Ytoehifincdflhaa
