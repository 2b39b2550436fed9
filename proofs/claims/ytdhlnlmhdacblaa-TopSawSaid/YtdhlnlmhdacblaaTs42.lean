/- The worked examples of chapter 11, reckoned; proves and Proof of scrap (layer 11); Proof of scrap (layer 11); The gaps of a book's net (layer 11), pipe by pipe; the heap's bound does not bind; two pipes in a row; The way through a place (layer 11), in plain Lean. -/
import Derived.Test.YtdhlnlmhdacblaaTs35
import Derived.Test.YtdhlnlmhdacblaaTs41
namespace Go.Proofs.Ytdhlnlmhdacblaa
open Go.RowKit
open Go.Sort (grow)
set_option linter.unusedVariables false
set_option linter.unusedSimpArgs false

theorem flow_nodes {np nl : Nat} {pl : List Sp} {ls : List Ln} {ws : Nat → Bool} (h : OkBk np nl pl ls) : NodesOk (flowL np nl pl ls ws) := fun p hp => by
  obtain ⟨a, b, c, d, -⟩ := (flow_ok (ws := ws) h p hp).1
  omega
theorem flow_lohi {np nl : Nat} {pl : List Sp} {ls : List Ln} {ws : Nat → Bool} (h : OkBk np nl pl ls) : LoHi (flowL np nl pl ls ws) := fun p hp => (flow_ok (ws := ws) h p hp).2
theorem with_mono {l : List Pp} {i : Nat} {a b a' b' : Int} (hi : i < l.length) (h1 : a' ≤ a) (h2 : b ≤ b') (h : Can (withPp l i a b)) : Can (withPp l i a' b') := by
  rw [can_with_iff _ _ hi] at h ⊢
  intro S
  have := h S
  cases e1 : enP S (ppAt l i) <;> cases e2 : lvP S (ppAt l i) <;> rw [e1, e2] at this <;> simp only [cond_true, cond_false] at this ⊢ <;> omega
def ckEnds (l : List Pp) (i : Nat) (L H : Int) : Bool :=
  canL l.length l && (decide ((ppAt l i).lo ≤ L) && (decide (L ≤ (ppAt l i).hi) && (canL l.length (withPp l i (ppAt l i).lo L) && (L == (ppAt l i).lo || !canL l.length (withPp l i (ppAt l i).lo (L - 1)))))) &&
  (decide ((ppAt l i).lo ≤ H) && (decide (H ≤ (ppAt l i).hi) && (canL l.length (withPp l i H (ppAt l i).hi) && (H == (ppAt l i).hi || !canL l.length (withPp l i (H + 1) (ppAt l i).hi)))))
theorem ends_ck {l : List Pp} {i : Nat} {L H : Int} (hi : i < l.length) (hn : NodesOk l) (hlh : LoHi l) (h : ckEnds l i L H = true) : endsP l.length l i = ⟨L, H⟩ := by
  have hq : ∀ a b, canL l.length (withPp l i a b) = true ↔ Can (withPp l i a b) := fun a b => by
    have := canL_iff (withPp_nodes (a := a) (b := b) hi hn)
    rwa [withPp_length] at this
  simp only [ckEnds, Bool.and_eq_true, decide_eq_true_eq, Bool.or_eq_true, beq_iff_eq, Bool.not_eq_true', hq] at h
  obtain ⟨⟨h0, h1, h2, h3, h4⟩, h5, h6, h7, h8⟩ := h
  have hc := (canL_iff hn).1 h0
  have hL := endsP_low hi hn hlh hc
  have hH := endsP_high hi hn hlh hc
  have e1 : (endsP l.length l i).lo = L := by
    have a := hL.least L h1 h3
    have b : ¬ (endsP l.length l i).lo < L := fun hlt => by
      rcases h4 with h4 | h4
      · have := hL.lo; omega
      · have := (hq _ _).2 (with_mono hi (Int.le_refl _) (by omega : (endsP l.length l i).lo ≤ L - 1) hL.can)
        rw [this] at h4; cases h4
    omega
  have e2 : (endsP l.length l i).hi = H := by
    have a := hH.most H h6 h7
    have b : ¬ H < (endsP l.length l i).hi := fun hlt => by
      rcases h8 with h8 | h8
      · have := hH.hi; omega
      · have := (hq _ _).2 (with_mono hi (by omega : H + 1 ≤ (endsP l.length l i).hi) (Int.le_refl _) hH.can)
        rw [this] at h8; cases h8
    omega
  rw [← e1, ← e2]

def exPl : List Sp := [⟨38, 40⟩, ⟨0, 0⟩, ⟨50, 54⟩]
def exLs : List Ln := [⟨-1, 0, ⟨100, 100⟩, ⟨0, 0⟩⟩, ⟨0, 1, ⟨60, 62⟩, ⟨0, 0⟩⟩, ⟨1, 2, ⟨55, 58⟩, ⟨3, 5⟩⟩, ⟨1, -1, ⟨4, 6⟩, ⟨0, 0⟩⟩]
def exLc : List Ln := [⟨-1, 0, ⟨100, 100⟩, ⟨0, 0⟩⟩, ⟨0, 1, ⟨60, 62⟩, ⟨0, 0⟩⟩, ⟨1, 2, ⟨55, 58⟩, ⟨3, 5⟩⟩, ⟨1, -1, ⟨4, 6⟩, ⟨0, 0⟩⟩, ⟨2, -1, ⟨10, 10⟩, ⟨0, 0⟩⟩]
theorem ex_okB : OkBk 3 4 exPl exLs := (okBk_of (pl := exPl) (ls := exLs) (wr := 0) rfl rfl (by decide +kernel)).1
theorem ex_okC : OkBk 3 5 exPl exLc := (okBk_of (pl := exPl) (ls := exLc) (wr := 0) rfl rfl (by decide +kernel)).1
theorem ends_exB {i s : Nat} {L H : Int} (hi : i < 12) (h : ckEnds (flowL 3 4 exPl exLs s.testBit) i L H = true) : endsS 3 4 exPl exLs i s = ⟨L, H⟩ := by
  have := ends_ck (l := flowL 3 4 exPl exLs s.testBit) (by rw [flow_len]; exact hi) (flow_nodes ex_okB) (flow_lohi ex_okB) h
  rw [flow_len] at this
  exact this
theorem ends_exC {i s : Nat} {L H : Int} (hi : i < 14) (h : ckEnds (flowL 3 5 exPl exLc s.testBit) i L H = true) : endsS 3 5 exPl exLc i s = ⟨L, H⟩ := by
  have := ends_ck (l := flowL 3 5 exPl exLc s.testBit) (by rw [flow_len]; exact hi) (flow_nodes ex_okC) (flow_lohi ex_okC) h
  rw [flow_len] at this
  exact this
theorem ev_few : fewR 3 5 exPl exLc 0 = (1, 0) := by decide +kernel
theorem ev_askB (i : Int) (h : isNo i 4 = true) : askZ 3 4 exPl exLs 0 (isNo i 4) = 0 := by rw [h]; decide +kernel
theorem ev_askB' : askZ 3 4 exPl exLs 0 true = 0 := by decide +kernel
theorem ev_askC : askZ 3 5 exPl exLc 1 true = 0 := by decide +kernel
theorem ev_setsB : truthSets 3 4 exPl exLs 0 = [0] := by decide +kernel
theorem ev_lineB : endsB 3 4 exPl exLs 0 4 = ⟨55, 58⟩ := by
  rw [endsB, ev_setsB, List.map_cons, List.map_nil, ends_exB (L := 55) (H := 58) (by omega) (by decide +kernel)]
  rfl
theorem ev_lostB : endsB 3 4 exPl exLs 0 11 = ⟨3, 5⟩ := by
  rw [endsB, ev_setsB, List.map_cons, List.map_nil, ends_exB (L := 3) (H := 5) (by omega) (by decide +kernel)]
  rfl
theorem ev_setsC : truthSets 3 5 exPl exLc 1 = [16] := by decide +kernel
theorem ev_lineC : endsB 3 5 exPl exLc 1 8 = ⟨0, 5⟩ := by
  rw [endsB, ev_setsC, List.map_cons, List.map_nil, ends_exC (L := 0) (H := 5) (by omega) (by decide +kernel)]
  rfl
theorem ev_strC : strL 3 5 exPl exLc 1 = [4] := by decide +kernel

end Go.Proofs.Ytdhlnlmhdacblaa

namespace Go.Proofs.Ytdhlnlmhdacblaa
open Go.RowKit
open Go.Sort (grow)
set_option linter.unusedVariables false
set_option linter.unusedSimpArgs false

def hsB (s : Nat) (i : Int) : Bool := decide (0 ≤ i) && s.testBit i.toNat
theorem hasB_c (s : Nat) (i : Int) (w : World) (hs : s < 65536) (hi : i < 64) :
    Calls Try.prog 66 #[.int .u64 s, .int .i64 i] w fun e w' => e = .returned (.bool (hsB s i)) ∧ w = w' := has_c_q11 s i w hs hi
def sumF (f : Nat → Int) : Nat → Int
  | 0 => 0
  | k + 1 => sumF f k + f k
/-- what line l brings to the places of a set: at the least, at the most -/
def prA (s : Nat) (l : Ln) : Int := bif hsB s l.to then (bif hsB s l.fr then -l.s.hi else l.w.lo - l.s.hi) else (bif hsB s l.fr then -l.w.hi else 0)
def prB (s : Nat) (l : Ln) : Int := bif hsB s l.to then (bif hsB s l.fr then -l.s.lo else l.w.hi - l.s.lo) else (bif hsB s l.fr then -l.w.lo else 0)
def prC (s : Nat) (pl : List Sp) (i : Nat) : Int := bif hsB s (i : Int) then -(spAt pl i).hi else 0
def prD (s : Nat) (pl : List Sp) (i : Nat) : Int := bif hsB s (i : Int) then -(spAt pl i).lo else 0
def leastV (np nl : Nat) (pl : List Sp) (ls : List Ln) (s : Nat) : Int := sumF (fun i => prA s (lnAt ls i)) nl + sumF (prC s pl) np
def mostV (np nl : Nat) (pl : List Sp) (ls : List Ln) (s : Nat) : Int := sumF (fun i => prB s (lnAt ls i)) nl + sumF (prD s pl) np
def prvB (np nl : Nat) (pl : List Sp) (ls : List Ln) (s : Nat) : Bool := decide (0 < leastV np nl pl ls s) || decide (mostV np nl pl ls s < 0)
theorem sumF_bd {f : Nat → Int} {M : Int} (h : ∀ k, -M ≤ f k ∧ f k ≤ M) (k : Nat) : -(k * M) ≤ sumF f k ∧ sumF f k ≤ k * M := by
  induction k with
  | zero => simp [sumF]
  | succ k ih =>
    have := h k
    have e : ((k + 1 : Nat) : Int) * M = k * M + M := by rw [Int.natCast_add, Int.add_mul]; simp
    simp only [sumF, e]
    omega
theorem prA_bd {np nl : Nat} {pl : List Sp} {ls : List Ln} (h : OkBk np nl pl ls) (s k : Nat) : (-1998 ≤ prA s (lnAt ls k) ∧ prA s (lnAt ls k) ≤ 1998) ∧ -1998 ≤ prB s (lnAt ls k) ∧ prB s (lnAt ls k) ≤ 1998 := by
  have := h.ln k
  unfold prA prB
  cases hsB s (lnAt ls k).to <;> cases hsB s (lnAt ls k).fr <;> simp <;> omega
theorem prC_bd {np nl : Nat} {pl : List Sp} {ls : List Ln} (h : OkBk np nl pl ls) (s k : Nat) : (-999 ≤ prC s pl k ∧ prC s pl k ≤ 999) ∧ -999 ≤ prD s pl k ∧ prD s pl k ≤ 999 := by
  have := h.sp k
  unfold prC prD
  cases hsB s (k : Int) <;> simp <;> omega

end Go.Proofs.Ytdhlnlmhdacblaa

namespace Go.Proofs.Ytdhlnlmhdacblaa
open Go.RowKit
open Go.Sort (grow)
set_option linter.unusedVariables false
set_option linter.unusedSimpArgs false

/-- the first set of places that proves -/
def prfO (np nl : Nat) (pl : List Sp) (ls : List Ln) : Option Nat := (List.range (2 ^ np)).find? fun s => s != 0 && prvB np nl pl ls s
/-- the members of a set below k -/
def memK (s k : Nat) : List Nat := (List.range k).filter s.testBit
theorem memK_succ {s k : Nat} (h : s.testBit k = true) : memK s (k + 1) = memK s k ++ [k] := by simp [memK, List.range_succ, List.filter_append, h]
theorem memK_succ_no {s k : Nat} (h : s.testBit k = false) : memK s (k + 1) = memK s k := by simp [memK, List.range_succ, List.filter_append, h]
theorem memK_len (s k : Nat) : (memK s k).length ≤ k := by
  have := List.length_filter_le s.testBit (List.range k)
  simpa [memK] using this
theorem prfO_none {np nl : Nat} {pl : List Sp} {ls : List Ln} (h : ∀ s, s < 2 ^ np → (s != 0 && prvB np nl pl ls s) = false) : prfO np nl pl ls = none := by
  unfold prfO
  rw [List.find?_eq_none]
  intro s hs
  simp only [h s (by simpa using hs)]
  simp
theorem prfO_some {np nl s : Nat} {pl : List Sp} {ls : List Ln} (hs : s < 2 ^ np) (h : (s != 0 && prvB np nl pl ls s) = true) (h0 : ∀ t, t < s → (t != 0 && prvB np nl pl ls t) = false) : prfO np nl pl ls = some s := by
  have h1 := idxN_some (n := 2 ^ np) (p := fun s => s != 0 && prvB np nl pl ls s) hs h h0
  unfold idxN at h1
  unfold prfO
  cases e : (List.range (2 ^ np)).find? (fun s => s != 0 && prvB np nl pl ls s) with
  | none => rw [e] at h1; simp at h1
  | some j => rw [e] at h1; simp at h1; simp; omega

/-- what Proof hands back -/
def PrfRet (np nl : Nat) (pl : List Sp) (ls : List Ln) (wrg : Int) (e : Ending) (w' : World) : Prop :=
  bif ckBk np nl pl ls wrg then (match prfO np nl pl ls with
    | none => e = .returned (.tuple #[.slice none 0 0, .int .i64 3])
    | some s => ∃ A c, e = .returned (.tuple #[.slice A (memK s np).length c, .int .i64 0]) ∧ IntsAt w' A (memK s np).length ((memK s np).map fun k : Nat => (k : Int)))
  else e = .returned (.tuple #[.slice none 0 0, .int .i64 110])

end Go.Proofs.Ytdhlnlmhdacblaa

namespace Go.Proofs.Ytdhlnlmhdacblaa
open Go.RowKit
open Go.Sort (grow)
set_option linter.unusedVariables false
set_option linter.unusedSimpArgs false

def wPp (ws : Nat → Bool) (i : Nat) (l : Ln) : Pp := ⟨nodeZ l.fr, nodeZ l.to, bif ws i then l.s.hi else l.w.lo, bif ws i then 999 else l.w.hi⟩
def sPp (l : Ln) : Pp := ⟨nodeZ l.to, 6, l.s.lo, l.s.hi⟩
def pPp (j : Nat) (s : Sp) : Pp := ⟨(j : Int), 5, s.lo, s.hi⟩
def hPp (H : Int) : Pp := ⟨6, 5, 0, H⟩
theorem flLn_eq (ws : Nat → Bool) (i : Nat) (l : Ln) : flLn ws i l = [wPp ws i l, sPp l] := rfl
theorem gap_flTo (S : Nat → Bool) (ls : List Ln) (ws : Nat → Bool) (n : Nat) : gap S (flTo ls ws n) = sumF (fun i => gp S (wPp ws i (lnAt ls i)) + gp S (sPp (lnAt ls i))) n := by
  induction n with
  | zero => rfl
  | succ n ih => rw [flTo_succ, gap_append, ih]; simp only [flLn_eq, gap, sumF]; omega
theorem gap_flPl (S : Nat → Bool) (pl : List Sp) (n : Nat) : gap S (flPl pl n) = sumF (fun i => gp S (pPp i (spAt pl i))) n := by
  induction n with
  | zero => rfl
  | succ n ih => rw [flPl_succ, gap_append, ih]; simp only [gap, sumF, pPp]; omega
theorem gap_flow (S : Nat → Bool) (np nl : Nat) (pl : List Sp) (ls : List Ln) (ws : Nat → Bool) :
    gap S (flowL np nl pl ls ws) = sumF (fun i => gp S (wPp ws i (lnAt ls i)) + gp S (sPp (lnAt ls i))) nl + sumF (fun i => gp S (pPp i (spAt pl i))) np + gp S (hPp (nl * 999)) := by
  rw [flowL, gap_append, gap_append, gap_flTo, gap_flPl]; simp only [gap, hPp]; omega
theorem sumF_congr {f g : Nat → Int} {n : Nat} (h : ∀ i, i < n → f i = g i) : sumF f n = sumF g n := by
  induction n with
  | zero => rfl
  | succ n ih => simp only [sumF, ih fun i hi => h i (by omega), h n (by omega)]
theorem sumF_but {f g : Nat → Int} {n k : Nat} (hk : k < n) (h : ∀ i, i < n → i ≠ k → f i = g i) : sumF f n = sumF g n + (f k - g k) := by
  induction n with
  | zero => omega
  | succ n ih =>
    simp only [sumF]
    by_cases e : k = n
    · subst e
      rw [sumF_congr fun i hi => h i (by omega) (by omega)]; omega
    · rw [ih (by omega) fun i hi hne => h i (by omega) hne, h n (by omega) (fun e' => e e'.symm)]; omega
theorem sumF_le {f g : Nat → Int} {n : Nat} (h : ∀ i, i < n → f i ≤ g i) : sumF f n ≤ sumF g n := by
  induction n with
  | zero => simp [sumF]
  | succ n ih => have := ih fun i hi => h i (by omega); have := h n (by omega); simp only [sumF]; omega
theorem sumF_add (f g : Nat → Int) (n : Nat) : sumF (fun i => f i + g i) n = sumF f n + sumF g n := by
  induction n with
  | zero => rfl
  | succ n ih => simp only [sumF, ih]; omega
theorem sumF_const {n : Nat} {f : Nat → Int} {c : Int} (h : ∀ i, i < n → f i ≤ c) : sumF f n ≤ n * c := by
  induction n with
  | zero => simp [sumF]
  | succ n ih =>
    have := ih fun i hi => h i (by omega)
    have := h n (by omega)
    have e : ((n + 1 : Nat) : Int) * c = n * c + c := by rw [Int.natCast_add, Int.add_mul]; simp
    simp only [sumF, e]; omega

/-- the pipes by their numbers -/
theorem flTo_get (ls : List Ln) (ws : Nat → Bool) {n i : Nat} (h : i < n) : (flTo ls ws n)[2 * i]? = some (wPp ws i (lnAt ls i)) ∧ (flTo ls ws n)[2 * i + 1]? = some (sPp (lnAt ls i)) := by
  induction n with
  | zero => omega
  | succ n ih =>
    rw [flTo_succ]
    by_cases e : i = n
    · subst e
      have hl := flTo_len ls ws i
      rw [List.getElem?_append_right (by omega), List.getElem?_append_right (by omega), hl, flLn_eq]
      simp
    · have hl := flTo_len ls ws n
      rw [List.getElem?_append_left (by omega), List.getElem?_append_left (by omega)]
      exact ih (by omega)
theorem ppAt_some {l : List Pp} {i : Nat} {p : Pp} (h : l[i]? = some p) : ppAt l i = p := by
  unfold ppAt; rw [List.getD_eq_getElem?_getD, h]; rfl
section
variable {np nl : Nat} {pl : List Sp} {ls : List Ln} {ws : Nat → Bool}
theorem pp_w {i : Nat} (h : i < nl) : ppAt (flowL np nl pl ls ws) (2 * i) = wPp ws i (lnAt ls i) := by
  have hl := flTo_len ls ws nl
  refine ppAt_some ?_
  rw [flowL, List.append_assoc, List.getElem?_append_left (by omega)]
  exact (flTo_get ls ws h).1
theorem pp_s {i : Nat} (h : i < nl) : ppAt (flowL np nl pl ls ws) (2 * i + 1) = sPp (lnAt ls i) := by
  have hl := flTo_len ls ws nl
  refine ppAt_some ?_
  rw [flowL, List.append_assoc, List.getElem?_append_left (by omega)]
  exact (flTo_get ls ws h).2
theorem pp_p {j : Nat} (h : j < np) : ppAt (flowL np nl pl ls ws) (2 * nl + j) = pPp j (spAt pl j) := by
  have hl := flTo_len ls ws nl
  refine ppAt_some ?_
  rw [flowL, List.append_assoc, List.getElem?_append_right (by omega), hl, Nat.add_sub_cancel_left, List.getElem?_append_left (by simp [flPl]; omega)]
  simp [flPl, h, pPp]
theorem pp_h : ppAt (flowL np nl pl ls ws) (2 * nl + np) = hPp (nl * 999) := by
  have hl := flTo_len ls ws nl
  have hl2 : (flTo ls ws nl ++ flPl pl np).length = 2 * nl + np := by simp [flPl, hl]
  refine ppAt_some ?_
  rw [flowL, List.getElem?_append_right (by omega), hl2, Nat.sub_self]
  rfl
end

/-- the set with the scales' node besides -/
def w6 (S : Nat → Bool) : Nat → Bool := fun n => n == 6 || S n
theorem gp_w6 (S : Nat → Bool) (p : Pp) (h6 : p.fr.toNat ≠ 6) (hlh : p.lo ≤ p.hi) : gp (w6 S) p ≤ gp S p + (if p.to.toNat = 6 then (if p.hi < 0 then 0 else p.hi) else 0) := by
  unfold gp w6
  by_cases e : p.to.toNat = 6
  · rw [if_pos e, e]
    simp only [beq_self_eq_true, Bool.true_or, Bool.not_true, Bool.and_false]
    have : (p.fr.toNat == 6) = false := by simpa using h6
    rw [this]
    simp only [Bool.false_or, Bool.true_and]
    cases S p.fr.toNat <;> cases S 6 <;> simp <;> split <;> omega
  · rw [if_neg e]
    have h1 : (p.fr.toNat == 6) = false := by simpa using h6
    have h2 : (p.to.toNat == 6) = false := by simpa using e
    rw [h1, h2]
    simp
theorem nodeZ_cases (n : Int) (h : -1 ≤ n) (h5 : n < 5) : (nodeZ n).toNat = 5 ∨ ((nodeZ n).toNat < 5 ∧ 0 ≤ n ∧ (nodeZ n).toNat = n.toNat) := by
  unfold nodeZ; split <;> omega

/-- a node that no pipe of the book's net touches may be in a set or not -/
def AvoidsN (l : List Pp) (N : Nat) : Prop := ∀ p ∈ l, p.fr.toNat ≠ N ∧ p.to.toNat ≠ N
theorem gp_off {S T : Nat → Bool} {N : Nat} (h : ∀ n, n ≠ N → S n = T n) {p : Pp} (h1 : p.fr.toNat ≠ N) (h2 : p.to.toNat ≠ N) : gp S p = gp T p := by
  unfold gp; rw [h _ h1, h _ h2]

/-- two pipes in a row are as one with what both allow -/
theorem ser {G : (Nat → Bool) → Int} {N f t : Nat} {x1 y1 x2 y2 : Int} (hG : ∀ S T : Nat → Bool, (∀ n, n ≠ N → S n = T n) → G S = G T) (hf : f ≠ N) (ht : t ≠ N) (h12 : x1 ≤ y2) (h21 : x2 ≤ y1) :
    (∀ S, 0 ≤ G S + gp S ⟨f, N, x1, y1⟩ + gp S ⟨N, t, x2, y2⟩) ↔ ∀ S, 0 ≤ G S + gp S ⟨f, t, max x1 x2, min y1 y2⟩ := by
  constructor
  · intro h S
    have on := h fun n => if n = N then true else S n
    have off := h fun n => if n = N then false else S n
    have e1 := hG (fun n => if n = N then true else S n) S fun n hn => by simp [hn]
    have e2 := hG (fun n => if n = N then false else S n) S fun n hn => by simp [hn]
    rw [e1] at on
    rw [e2] at off
    simp only [gp, Int.toNat_natCast, hf, ht, if_false, if_true] at on off ⊢
    generalize S f = a at *
    generalize S t = b at *
    cases a <;> cases b <;> simp at on off ⊢ <;> omega
  · intro h S
    have h0 := h S
    simp only [gp, Int.toNat_natCast] at h0 ⊢
    generalize S f = a at *
    generalize S t = b at *
    generalize S N = c at *
    cases a <;> cases b <;> cases c <;> simp at h0 ⊢ <;> omega

end Go.Proofs.Ytdhlnlmhdacblaa

namespace Go.Proofs.Ytdhlnlmhdacblaa
open Go.RowKit
open Go.Sort (grow)
set_option linter.unusedVariables false
set_option linter.unusedSimpArgs false

/-- a valid book's lines go from places, or from outside, to places, or to outside -/
structure InBk (np nl : Nat) (ls : List Ln) : Prop where
  fr : ∀ k, k < nl → (lnAt ls k).fr = -1 ∨ (0 ≤ (lnAt ls k).fr ∧ (lnAt ls k).fr < np)
  to : ∀ k, k < nl → (lnAt ls k).to = -1 ∨ (0 ≤ (lnAt ls k).to ∧ (lnAt ls k).to < np)
theorem inBk_of {np nl : Nat} {pl : List Sp} {ls : List Ln} {wr : Int} (h : ckBk np nl pl ls wr = true) : InBk np nl ls := by
  unfold ckBk at h
  simp only [Bool.and_eq_true] at h
  have h5 := allN_iff.1 h.2.2
  refine ⟨fun k hk => ?_, fun k hk => ?_⟩
  all_goals
    have := h5 k hk
    simp only [ckLn, Bool.and_eq_true, isEnd, isNo, Bool.not_eq_true', Bool.and_eq_false_iff, Bool.not_eq_false', bne_eq_false_iff_eq, wi_true_q11] at this
    omega
/-- all pipes but the heap's -/
def Ra (np nl : Nat) (pl : List Sp) (ls : List Ln) (ws : Nat → Bool) (S : Nat → Bool) : Int :=
  sumF (fun i => gp S (wPp ws i (lnAt ls i)) + gp S (sPp (lnAt ls i))) nl + sumF (fun i => gp S (pPp i (spAt pl i))) np
theorem gap_Ra (S : Nat → Bool) (np nl : Nat) (pl : List Sp) (ls : List Ln) (ws : Nat → Bool) : gap S (flowL np nl pl ls ws) = Ra np nl pl ls ws S + gp S (hPp (nl * 999)) := gap_flow S np nl pl ls ws
theorem gp_w6_eq {S : Nat → Bool} {p : Pp} (h1 : p.fr.toNat ≠ 6) (h2 : p.to.toNat ≠ 6) : gp (w6 S) p = gp S p := by
  have e1 : (p.fr.toNat == 6) = false := by simpa using h1
  have e2 : (p.to.toNat == 6) = false := by simpa using h2
  unfold gp w6
  rw [e1, e2]
  simp
section
variable {np nl : Nat} {pl : List Sp} {ls : List Ln} {ws : Nat → Bool}
theorem nodeZ_6 (n : Int) (h : -1 ≤ n) (h5 : n < 5) : (nodeZ n).toNat ≠ 6 := by
  rcases nodeZ_cases n h h5 with h | h <;> omega
theorem Ra_w6 (h : OkBk np nl pl ls) (S : Nat → Bool) : Ra np nl pl ls ws (w6 S) ≤ Ra np nl pl ls ws S + nl * 999 := by
  have hp := h.hp
  have h1 : sumF (fun i => gp (w6 S) (wPp ws i (lnAt ls i)) + gp (w6 S) (sPp (lnAt ls i))) nl ≤ sumF (fun i => (gp S (wPp ws i (lnAt ls i)) + gp S (sPp (lnAt ls i))) + 999) nl := by
    refine sumF_le fun i _ => ?_
    obtain ⟨a1, a2, a3, a4, a5, a6, a7, a8, a9⟩ := h.ln i
    have e1 : gp (w6 S) (wPp ws i (lnAt ls i)) = gp S (wPp ws i (lnAt ls i)) := gp_w6_eq (nodeZ_6 _ a1 a2) (nodeZ_6 _ a3 a4)
    have e2 := gp_w6 S (sPp (lnAt ls i)) (nodeZ_6 _ a3 a4) a6
    rw [if_pos (show (sPp (lnAt ls i)).to.toNat = 6 from rfl)] at e2
    have e3 : (sPp (lnAt ls i)).hi = (lnAt ls i).s.hi := rfl
    rw [e3] at e2
    split at e2 <;> omega
  have h2 : sumF (fun i => gp (w6 S) (pPp i (spAt pl i))) np = sumF (fun i => gp S (pPp i (spAt pl i))) np :=
    sumF_congr fun i hi => gp_w6_eq (by simp [pPp]; omega) (by simp [pPp])
  have h3 := sumF_add (fun i => gp S (wPp ws i (lnAt ls i)) + gp S (sPp (lnAt ls i))) (fun _ => 999) nl
  have h4 := sumF_const (n := nl) (f := fun _ => (999 : Int)) (c := 999) (fun _ _ => Int.le_refl _)
  simp only [Ra, h2]
  omega
theorem Ra_off (hb : InBk np nl ls) (hp : np < 5) {S T : Nat → Bool} (hST : ∀ n, n ≠ np → S n = T n) : Ra np nl pl ls ws S = Ra np nl pl ls ws T := by
  have nz : ∀ n : Int, (n = -1 ∨ (0 ≤ n ∧ n < np)) → (nodeZ n).toNat ≠ np := fun n hn => by unfold nodeZ; split <;> omega
  unfold Ra
  rw [sumF_congr fun i hi => show gp S (wPp ws i (lnAt ls i)) + gp S (sPp (lnAt ls i)) = gp T (wPp ws i (lnAt ls i)) + gp T (sPp (lnAt ls i)) by
      rw [gp_off hST (nz _ (hb.fr i hi)) (nz _ (hb.to i hi)), gp_off (p := sPp (lnAt ls i)) hST (nz _ (hb.to i hi)) (by simp [sPp]; omega)],
    sumF_congr fun i hi => show gp S (pPp i (spAt pl i)) = gp T (pPp i (spAt pl i)) from gp_off hST (by simp [pPp]; omega) (by simp [pPp]; omega)]
/-- the heap's greater bound does not bind -/
theorem heap_free {R : (Nat → Bool) → Int} {B x H H' : Int} (hR : ∀ S, R (w6 S) ≤ R S + B) (hB : B ≤ H) (hH : H ≤ H') : (∀ S, 0 ≤ R S + gp S ⟨6, 5, x, H'⟩) ↔ ∀ S, 0 ≤ R S + gp S ⟨6, 5, x, H⟩ := by
  have h65 : (6 : Int).toNat = 6 ∧ (5 : Int).toNat = 5 := ⟨rfl, rfl⟩
  constructor
  · intro h S
    have h0 := h S
    have h1 := h (w6 S)
    have h2 := hR S
    simp only [gp, h65.1, h65.2] at h0 h1 ⊢
    simp only [w6] at h1
    cases e5 : S 5 <;> cases e6 : S 6 <;> simp [e5, e6] at h0 h1 ⊢ <;> omega
  · intro h S
    have h0 := h S
    simp only [gp, h65.1, h65.2] at h0 ⊢
    cases e5 : S 5 <;> cases e6 : S 6 <;> simp [e5, e6] at h0 ⊢ <;> omega
end

/-- the book with the new place -/
def oPl (pl : List Sp) : List Sp := pl ++ [⟨0, 0⟩]
def oLs (np : Nat) (ls : List Ln) (k : Nat) : List Ln := ls.set k { lnAt ls k with fr := np } ++ [⟨(lnAt ls k).fr, np, (lnAt ls k).w, ⟨0, 0⟩⟩]
section
variable {np nl k : Nat} {pl : List Sp} {ls : List Ln}
theorem oPl_at (hl : pl.length = np) (j : Nat) : spAt (oPl pl) j = if j < np then spAt pl j else ⟨0, 0⟩ := by
  unfold spAt oPl
  simp only [List.getD_eq_getElem?_getD]
  by_cases h : j < np
  · rw [if_pos h, List.getElem?_append_left (by omega)]
  · rw [if_neg h]
    by_cases e : j = np
    · subst e; rw [List.getElem?_append_right (by omega)]; simp [hl]
    · rw [List.getElem?_eq_none (by simp; omega)]; rfl
theorem oLs_at (hl : ls.length = nl) (hk : k < nl) (i : Nat) (hi : i < nl) : lnAt (oLs np ls k) i = if i = k then { lnAt ls k with fr := (np : Int) } else lnAt ls i := by
  unfold lnAt oLs
  simp only [List.getD_eq_getElem?_getD]
  rw [List.getElem?_append_left (by simp; omega), List.getElem?_set]
  by_cases e : i = k
  · subst e; rw [if_pos rfl, if_pos (by omega), if_pos rfl]; rfl
  · rw [if_neg (fun h => e h.symm), if_neg e]
theorem oLs_new (hl : ls.length = nl) : lnAt (oLs np ls k) nl = ⟨(lnAt ls k).fr, np, (lnAt ls k).w, ⟨0, 0⟩⟩ := by
  unfold oLs
  show (List.set ls k _ ++ [_]).getD nl _ = _
  rw [List.getD_eq_getElem?_getD, List.getElem?_append_right (by simp; omega)]
  simp [hl]
def zw : Nat → Bool := fun _ => false
theorem zero_bits : (0 : Nat).testBit = zw := by funext i; simp [zw]
theorem gp_zero (S : Nat → Bool) (f t : Int) : gp S ⟨f, t, 0, 0⟩ = 0 := by
  unfold gp; cases S f.toNat <;> cases S t.toNat <;> simp
/-- what the book's line k brings, whole, and on the two parts of the way -/
def q0 (ls : List Ln) (k : Nat) (x y : Int) : Pp := ⟨nodeZ (lnAt ls k).fr, nodeZ (lnAt ls k).to, x, y⟩
def q1 (np : Nat) (ls : List Ln) (k : Nat) (x y : Int) : Pp := ⟨nodeZ (lnAt ls k).fr, np, x, y⟩
def q2 (np : Nat) (ls : List Ln) (k : Nat) (x y : Int) : Pp := ⟨np, nodeZ (lnAt ls k).to, x, y⟩
theorem Ra_o (hp : pl.length = np) (hl : ls.length = nl) (hk : k < nl) (S : Nat → Bool) :
    Ra (np + 1) (nl + 1) (oPl pl) (oLs np ls k) zw S = Ra np nl pl ls zw S - gp S (q0 ls k (lnAt ls k).w.lo (lnAt ls k).w.hi) + gp S (q1 np ls k (lnAt ls k).w.lo (lnAt ls k).w.hi) + gp S (q2 np ls k (lnAt ls k).w.lo (lnAt ls k).w.hi) := by
  have hn : nodeZ (np : Int) = np := by unfold nodeZ; split <;> omega
  have h1 : sumF (fun i => gp S (wPp zw i (lnAt (oLs np ls k) i)) + gp S (sPp (lnAt (oLs np ls k) i))) nl
      = sumF (fun i => gp S (wPp zw i (lnAt ls i)) + gp S (sPp (lnAt ls i))) nl + (gp S (q2 np ls k (lnAt ls k).w.lo (lnAt ls k).w.hi) - gp S (q0 ls k (lnAt ls k).w.lo (lnAt ls k).w.hi)) := by
    rw [sumF_but (g := fun i => gp S (wPp zw i (lnAt ls i)) + gp S (sPp (lnAt ls i))) hk (fun i hi hne => by rw [oLs_at hl hk i hi, if_neg hne])]
    rw [oLs_at hl hk k hk, if_pos rfl]
    have e1 : gp S (wPp zw k { lnAt ls k with fr := (np : Int) }) = gp S (q2 np ls k (lnAt ls k).w.lo (lnAt ls k).w.hi) := by simp [wPp, q2, zw, hn]
    have e2 : gp S (wPp zw k (lnAt ls k)) = gp S (q0 ls k (lnAt ls k).w.lo (lnAt ls k).w.hi) := by simp [wPp, q0, zw]
    have e3 : gp S (sPp { lnAt ls k with fr := (np : Int) }) = gp S (sPp (lnAt ls k)) := rfl
    rw [e1, e2, e3]
    omega
  have h2 : sumF (fun i => gp S (pPp i (spAt (oPl pl) i))) np = sumF (fun i => gp S (pPp i (spAt pl i))) np := sumF_congr fun i hi => by rw [oPl_at hp, if_pos hi]
  have h3 : gp S (pPp np (spAt (oPl pl) np)) = 0 := by rw [oPl_at hp, if_neg (by omega)]; exact gp_zero _ _ _
  have h4 : gp S (wPp zw nl (lnAt (oLs np ls k) nl)) = gp S (q1 np ls k (lnAt ls k).w.lo (lnAt ls k).w.hi) := by rw [oLs_new hl]; simp [wPp, q1, zw, hn]
  have h5 : gp S (sPp (lnAt (oLs np ls k) nl)) = 0 := by rw [oLs_new hl]; exact gp_zero _ _ _
  simp only [Ra, sumF]
  rw [h1, h2, h3, h4, h5]
  omega
end

section
variable {np nl k : Nat} {pl : List Sp} {ls : List Ln}
/-- THE CORE: with some pipes turned (M), and the line's own bounds, on either part of the way -/
theorem thru (h : OkBk np nl pl ls) (hb : InBk np nl ls) (hp : np < 5) (hk : k < nl) {M : (Nat → Bool) → Int} (hM : ∀ S T : Nat → Bool, (∀ n, n ≠ np → S n = T n) → M S = M T) {x1 y1 x2 y2 : Int} (h12 : x1 ≤ y2) (h21 : x2 ≤ y1) (hx H : Int) :
    (∀ S, 0 ≤ (Ra np nl pl ls zw S - gp S (q0 ls k (lnAt ls k).w.lo (lnAt ls k).w.hi) + gp S (q1 np ls k x1 y1) + gp S (q2 np ls k x2 y2) + M S) + gp S ⟨6, 5, hx, H⟩) ↔
    (∀ S, 0 ≤ (Ra np nl pl ls zw S - gp S (q0 ls k (lnAt ls k).w.lo (lnAt ls k).w.hi) + gp S (q0 ls k (max x1 x2) (min y1 y2)) + M S) + gp S ⟨6, 5, hx, H⟩) := by
  have nz : ∀ n : Int, (n = -1 ∨ (0 ≤ n ∧ n < np)) → ((nodeZ n).toNat : Int) = nodeZ n ∧ (nodeZ n).toNat ≠ np := fun n hn => by unfold nodeZ; split <;> omega
  obtain ⟨f1, f2⟩ := nz _ (hb.fr k hk)
  obtain ⟨t1, t2⟩ := nz _ (hb.to k hk)
  have hs := ser (G := fun S => Ra np nl pl ls zw S - gp S (q0 ls k (lnAt ls k).w.lo (lnAt ls k).w.hi) + M S + gp S ⟨6, 5, hx, H⟩) (N := np) (f := (nodeZ (lnAt ls k).fr).toNat) (t := (nodeZ (lnAt ls k).to).toNat) (x1 := x1) (y1 := y1) (x2 := x2) (y2 := y2)
    (fun S T hST => by
      have e1 := Ra_off (ws := zw) (pl := pl) hb hp hST
      have e2 := hM S T hST
      have e3 : gp S (q0 ls k (lnAt ls k).w.lo (lnAt ls k).w.hi) = gp T (q0 ls k (lnAt ls k).w.lo (lnAt ls k).w.hi) := gp_off hST f2 t2
      have e4 : gp S ⟨6, 5, hx, H⟩ = gp T ⟨6, 5, hx, H⟩ := gp_off hST (show (6 : Int).toNat ≠ np by simp; omega) (show (5 : Int).toNat ≠ np by simp; omega)
      simp only [e1, e2, e3, e4]) f2 t2 h12 h21
  rw [f1, t1] at hs
  refine Iff.trans (Iff.trans ?_ hs) ?_
  · exact ⟨fun g S => by have := g S; simp only [q1, q2] at this ⊢; omega, fun g S => by have := g S; simp only [q1, q2] at this ⊢; omega⟩
  · exact ⟨fun g S => by have := g S; simp only [q0] at this ⊢; omega, fun g S => by have := g S; simp only [q0] at this ⊢; omega⟩
end

end Go.Proofs.Ytdhlnlmhdacblaa
