/- The worked examples of chapter 11, reckoned. -/
import Derived.Test.YtdhlnlmhdacblaaSj40
import Derived.Test.YtdhlnlmhdacblaaSj44
namespace Go.Proofs.Ytdhlnlmhdacblaa
open Go.RowKit
open Go.Sort (grow)
set_option linter.unusedVariables false
set_option linter.unusedSimpArgs false

theorem flow_nodes {np nl : Nat} {pl : List Sp} {ls : List Ln} {ws : Nat → Bool} (h : OkBk np nl pl ls) : NodesOk (flowL np nl pl ls ws) := fun p hp => by
  obtain ⟨a, b, c, d, -⟩ := (flow_ok (ws := ws) h p hp).1
  omega
theorem flow_lohi {np nl : Nat} {pl : List Sp} {ls : List Ln} {ws : Nat → Bool} (h : OkBk np nl pl ls) : LoHi (flowL np nl pl ls ws) := fun p hp => (flow_ok (ws := ws) h p hp).2
theorem with_mono {l : List Pp} {i : Nat} {a b a' b' : Int} (hi : i < l.length) (h1 : a' ≤ a) (h2 : b ≤ b') (h : Can (withPp l i a b)) : Can (withPp l i a' b') := by
  rw [can_with_iff _ _ hi] at h ⊢
  intro S
  have := h S
  cases e1 : enP S (ppAt l i) <;> cases e2 : lvP S (ppAt l i) <;> rw [e1, e2] at this <;> simp only [cond_true, cond_false] at this ⊢ <;> omega
def ckEnds (l : List Pp) (i : Nat) (L H : Int) : Bool :=
  canL l.length l && (decide ((ppAt l i).lo ≤ L) && (decide (L ≤ (ppAt l i).hi) && (canL l.length (withPp l i (ppAt l i).lo L) && (L == (ppAt l i).lo || !canL l.length (withPp l i (ppAt l i).lo (L - 1)))))) &&
  (decide ((ppAt l i).lo ≤ H) && (decide (H ≤ (ppAt l i).hi) && (canL l.length (withPp l i H (ppAt l i).hi) && (H == (ppAt l i).hi || !canL l.length (withPp l i (H + 1) (ppAt l i).hi)))))
theorem ends_ck {l : List Pp} {i : Nat} {L H : Int} (hi : i < l.length) (hn : NodesOk l) (hlh : LoHi l) (h : ckEnds l i L H = true) : endsP l.length l i = ⟨L, H⟩ := by
  have hq : ∀ a b, canL l.length (withPp l i a b) = true ↔ Can (withPp l i a b) := fun a b => by
    have := canL_iff (withPp_nodes (a := a) (b := b) hi hn)
    rwa [withPp_length] at this
  simp only [ckEnds, Bool.and_eq_true, decide_eq_true_eq, Bool.or_eq_true, beq_iff_eq, Bool.not_eq_true', hq] at h
  obtain ⟨⟨h0, h1, h2, h3, h4⟩, h5, h6, h7, h8⟩ := h
  have hc := (canL_iff hn).1 h0
  have hL := endsP_low hi hn hlh hc
  have hH := endsP_high hi hn hlh hc
  have e1 : (endsP l.length l i).lo = L := by
    have a := hL.least L h1 h3
    have b : ¬ (endsP l.length l i).lo < L := fun hlt => by
      rcases h4 with h4 | h4
      · have := hL.lo; omega
      · have := (hq _ _).2 (with_mono hi (Int.le_refl _) (by omega : (endsP l.length l i).lo ≤ L - 1) hL.can)
        rw [this] at h4; cases h4
    omega
  have e2 : (endsP l.length l i).hi = H := by
    have a := hH.most H h6 h7
    have b : ¬ H < (endsP l.length l i).hi := fun hlt => by
      rcases h8 with h8 | h8
      · have := hH.hi; omega
      · have := (hq _ _).2 (with_mono hi (by omega : H + 1 ≤ (endsP l.length l i).hi) (Int.le_refl _) hH.can)
        rw [this] at h8; cases h8
    omega
  rw [← e1, ← e2]

def exPl : List Sp := [⟨38, 40⟩, ⟨0, 0⟩, ⟨50, 54⟩]
def exLs : List Ln := [⟨-1, 0, ⟨100, 100⟩, ⟨0, 0⟩⟩, ⟨0, 1, ⟨60, 62⟩, ⟨0, 0⟩⟩, ⟨1, 2, ⟨55, 58⟩, ⟨3, 5⟩⟩, ⟨1, -1, ⟨4, 6⟩, ⟨0, 0⟩⟩]
def exLc : List Ln := [⟨-1, 0, ⟨100, 100⟩, ⟨0, 0⟩⟩, ⟨0, 1, ⟨60, 62⟩, ⟨0, 0⟩⟩, ⟨1, 2, ⟨55, 58⟩, ⟨3, 5⟩⟩, ⟨1, -1, ⟨4, 6⟩, ⟨0, 0⟩⟩, ⟨2, -1, ⟨10, 10⟩, ⟨0, 0⟩⟩]
theorem ex_okB : OkBk 3 4 exPl exLs := (okBk_of (pl := exPl) (ls := exLs) (wr := 0) rfl rfl (by decide +kernel)).1
theorem ex_okC : OkBk 3 5 exPl exLc := (okBk_of (pl := exPl) (ls := exLc) (wr := 0) rfl rfl (by decide +kernel)).1
theorem ends_exB {i s : Nat} {L H : Int} (hi : i < 12) (h : ckEnds (flowL 3 4 exPl exLs s.testBit) i L H = true) : endsS 3 4 exPl exLs i s = ⟨L, H⟩ := by
  have := ends_ck (l := flowL 3 4 exPl exLs s.testBit) (by rw [flow_len]; exact hi) (flow_nodes ex_okB) (flow_lohi ex_okB) h
  rw [flow_len] at this
  exact this
theorem ends_exC {i s : Nat} {L H : Int} (hi : i < 14) (h : ckEnds (flowL 3 5 exPl exLc s.testBit) i L H = true) : endsS 3 5 exPl exLc i s = ⟨L, H⟩ := by
  have := ends_ck (l := flowL 3 5 exPl exLc s.testBit) (by rw [flow_len]; exact hi) (flow_nodes ex_okC) (flow_lohi ex_okC) h
  rw [flow_len] at this
  exact this
theorem ev_few : fewR 3 5 exPl exLc 0 = (1, 0) := by decide +kernel
theorem ev_askB (i : Int) (h : isNo i 4 = true) : askZ 3 4 exPl exLs 0 (isNo i 4) = 0 := by rw [h]; decide +kernel
theorem ev_askB' : askZ 3 4 exPl exLs 0 true = 0 := by decide +kernel
theorem ev_askC : askZ 3 5 exPl exLc 1 true = 0 := by decide +kernel
theorem ev_setsB : truthSets 3 4 exPl exLs 0 = [0] := by decide +kernel
theorem ev_lineB : endsB 3 4 exPl exLs 0 4 = ⟨55, 58⟩ := by
  rw [endsB, ev_setsB, List.map_cons, List.map_nil, ends_exB (L := 55) (H := 58) (by omega) (by decide +kernel)]
  rfl
theorem ev_lostB : endsB 3 4 exPl exLs 0 11 = ⟨3, 5⟩ := by
  rw [endsB, ev_setsB, List.map_cons, List.map_nil, ends_exB (L := 3) (H := 5) (by omega) (by decide +kernel)]
  rfl
theorem ev_setsC : truthSets 3 5 exPl exLc 1 = [16] := by decide +kernel
theorem ev_lineC : endsB 3 5 exPl exLc 1 8 = ⟨0, 5⟩ := by
  rw [endsB, ev_setsC, List.map_cons, List.map_nil, ends_exC (L := 0) (H := 5) (by omega) (by decide +kernel)]
  rfl
theorem ev_strC : strL 3 5 exPl exLc 1 = [4] := by decide +kernel

end Go.Proofs.Ytdhlnlmhdacblaa
