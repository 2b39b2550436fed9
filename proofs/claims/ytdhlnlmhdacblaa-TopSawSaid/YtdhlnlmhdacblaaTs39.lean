/- The worked examples of chapter 11, reckoned; Example of the statements (layer 11); Fits of scrap (layer 11); proves and Proof of scrap (layer 11); Proof of scrap (layer 11). -/
import Derived.Test.YtdhlnlmhdacblaaTs34
import Derived.Test.YtdhlnlmhdacblaaTs38
import Derived.Test.YtdhlnlmhdacblaaTs33
namespace Go.Proofs.Ytdhlnlmhdacblaa
open Go.RowKit
open Go.Sort (grow)
set_option linter.unusedVariables false
set_option linter.unusedSimpArgs false

theorem flow_nodes {np nl : Nat} {pl : List Sp} {ls : List Ln} {ws : Nat → Bool} (h : OkBk np nl pl ls) : NodesOk (flowL np nl pl ls ws) := fun p hp => by
  obtain ⟨a, b, c, d, -⟩ := (flow_ok (ws := ws) h p hp).1
  omega
theorem flow_lohi {np nl : Nat} {pl : List Sp} {ls : List Ln} {ws : Nat → Bool} (h : OkBk np nl pl ls) : LoHi (flowL np nl pl ls ws) := fun p hp => (flow_ok (ws := ws) h p hp).2
theorem with_mono {l : List Pp} {i : Nat} {a b a' b' : Int} (hi : i < l.length) (h1 : a' ≤ a) (h2 : b ≤ b') (h : Can (withPp l i a b)) : Can (withPp l i a' b') := by
  rw [can_with_iff _ _ hi] at h ⊢
  intro S
  have := h S
  cases e1 : enP S (ppAt l i) <;> cases e2 : lvP S (ppAt l i) <;> rw [e1, e2] at this <;> simp only [cond_true, cond_false] at this ⊢ <;> omega
def ckEnds (l : List Pp) (i : Nat) (L H : Int) : Bool :=
  canL l.length l && (decide ((ppAt l i).lo ≤ L) && (decide (L ≤ (ppAt l i).hi) && (canL l.length (withPp l i (ppAt l i).lo L) && (L == (ppAt l i).lo || !canL l.length (withPp l i (ppAt l i).lo (L - 1)))))) &&
  (decide ((ppAt l i).lo ≤ H) && (decide (H ≤ (ppAt l i).hi) && (canL l.length (withPp l i H (ppAt l i).hi) && (H == (ppAt l i).hi || !canL l.length (withPp l i (H + 1) (ppAt l i).hi)))))
theorem ends_ck {l : List Pp} {i : Nat} {L H : Int} (hi : i < l.length) (hn : NodesOk l) (hlh : LoHi l) (h : ckEnds l i L H = true) : endsP l.length l i = ⟨L, H⟩ := by
  have hq : ∀ a b, canL l.length (withPp l i a b) = true ↔ Can (withPp l i a b) := fun a b => by
    have := canL_iff (withPp_nodes (a := a) (b := b) hi hn)
    rwa [withPp_length] at this
  simp only [ckEnds, Bool.and_eq_true, decide_eq_true_eq, Bool.or_eq_true, beq_iff_eq, Bool.not_eq_true', hq] at h
  obtain ⟨⟨h0, h1, h2, h3, h4⟩, h5, h6, h7, h8⟩ := h
  have hc := (canL_iff hn).1 h0
  have hL := endsP_low hi hn hlh hc
  have hH := endsP_high hi hn hlh hc
  have e1 : (endsP l.length l i).lo = L := by
    have a := hL.least L h1 h3
    have b : ¬ (endsP l.length l i).lo < L := fun hlt => by
      rcases h4 with h4 | h4
      · have := hL.lo; omega
      · have := (hq _ _).2 (with_mono hi (Int.le_refl _) (by omega : (endsP l.length l i).lo ≤ L - 1) hL.can)
        rw [this] at h4; cases h4
    omega
  have e2 : (endsP l.length l i).hi = H := by
    have a := hH.most H h6 h7
    have b : ¬ H < (endsP l.length l i).hi := fun hlt => by
      rcases h8 with h8 | h8
      · have := hH.hi; omega
      · have := (hq _ _).2 (with_mono hi (by omega : H + 1 ≤ (endsP l.length l i).hi) (Int.le_refl _) hH.can)
        rw [this] at h8; cases h8
    omega
  rw [← e1, ← e2]

def exPl : List Sp := [⟨38, 40⟩, ⟨0, 0⟩, ⟨50, 54⟩]
def exLs : List Ln := [⟨-1, 0, ⟨100, 100⟩, ⟨0, 0⟩⟩, ⟨0, 1, ⟨60, 62⟩, ⟨0, 0⟩⟩, ⟨1, 2, ⟨55, 58⟩, ⟨3, 5⟩⟩, ⟨1, -1, ⟨4, 6⟩, ⟨0, 0⟩⟩]
def exLc : List Ln := [⟨-1, 0, ⟨100, 100⟩, ⟨0, 0⟩⟩, ⟨0, 1, ⟨60, 62⟩, ⟨0, 0⟩⟩, ⟨1, 2, ⟨55, 58⟩, ⟨3, 5⟩⟩, ⟨1, -1, ⟨4, 6⟩, ⟨0, 0⟩⟩, ⟨2, -1, ⟨10, 10⟩, ⟨0, 0⟩⟩]
theorem ex_okB : OkBk 3 4 exPl exLs := (okBk_of (pl := exPl) (ls := exLs) (wr := 0) rfl rfl (by decide +kernel)).1
theorem ex_okC : OkBk 3 5 exPl exLc := (okBk_of (pl := exPl) (ls := exLc) (wr := 0) rfl rfl (by decide +kernel)).1
theorem ends_exB {i s : Nat} {L H : Int} (hi : i < 12) (h : ckEnds (flowL 3 4 exPl exLs s.testBit) i L H = true) : endsS 3 4 exPl exLs i s = ⟨L, H⟩ := by
  have := ends_ck (l := flowL 3 4 exPl exLs s.testBit) (by rw [flow_len]; exact hi) (flow_nodes ex_okB) (flow_lohi ex_okB) h
  rw [flow_len] at this
  exact this
theorem ends_exC {i s : Nat} {L H : Int} (hi : i < 14) (h : ckEnds (flowL 3 5 exPl exLc s.testBit) i L H = true) : endsS 3 5 exPl exLc i s = ⟨L, H⟩ := by
  have := ends_ck (l := flowL 3 5 exPl exLc s.testBit) (by rw [flow_len]; exact hi) (flow_nodes ex_okC) (flow_lohi ex_okC) h
  rw [flow_len] at this
  exact this
theorem ev_few : fewR 3 5 exPl exLc 0 = (1, 0) := by decide +kernel
theorem ev_askB (i : Int) (h : isNo i 4 = true) : askZ 3 4 exPl exLs 0 (isNo i 4) = 0 := by rw [h]; decide +kernel
theorem ev_askB' : askZ 3 4 exPl exLs 0 true = 0 := by decide +kernel
theorem ev_askC : askZ 3 5 exPl exLc 1 true = 0 := by decide +kernel
theorem ev_setsB : truthSets 3 4 exPl exLs 0 = [0] := by decide +kernel
theorem ev_lineB : endsB 3 4 exPl exLs 0 4 = ⟨55, 58⟩ := by
  rw [endsB, ev_setsB, List.map_cons, List.map_nil, ends_exB (L := 55) (H := 58) (by omega) (by decide +kernel)]
  rfl
theorem ev_lostB : endsB 3 4 exPl exLs 0 11 = ⟨3, 5⟩ := by
  rw [endsB, ev_setsB, List.map_cons, List.map_nil, ends_exB (L := 3) (H := 5) (by omega) (by decide +kernel)]
  rfl
theorem ev_setsC : truthSets 3 5 exPl exLc 1 = [16] := by decide +kernel
theorem ev_lineC : endsB 3 5 exPl exLc 1 8 = ⟨0, 5⟩ := by
  rw [endsB, ev_setsC, List.map_cons, List.map_nil, ends_exC (L := 0) (H := 5) (by omega) (by decide +kernel)]
  rfl
theorem ev_strC : strL 3 5 exPl exLc 1 = [4] := by decide +kernel

end Go.Proofs.Ytdhlnlmhdacblaa

namespace Go.Proofs.Ytdhlnlmhdacblaa
open Go.RowKit
open Go.Sort (grow)
set_option linter.unusedVariables false
set_option linter.unusedSimpArgs false

theorem sl_cells_q11 {α : Type} {enc : α → List Value} {size : Nat} {d : α} (hs : ∀ x, (enc x).length = size) {w : World} {cs : Array Value} {ys : List α} {g m : Nat} (hg : g < w.heap.size) (hc : ∀ i, w.cell? ⟨g, i, none⟩ = cs[i]?) (hl : ys.length = m) (hcs : cs.toList = ys.flatMap enc) :
    SlAt enc size d w (some ⟨g, 0, none⟩) m ys := by
  refine ⟨hl, fun _ => ⟨g, 0, rfl, hg, fun k hk j u hu => ?_⟩⟩
  have hj : j < size := by
    have := (List.getElem?_eq_some_iff.1 hu).1
    rwa [hs] at this
  rw [hc, Nat.zero_add, ← Array.getElem?_toList, hcs, flat_get (d := d) hs ys k j hj (by omega)]
  exact hu
theorem three_set {w : World} {b : Nat} {a0 a1 a2 v0 v1 v2 : Value} (h : ∀ j, w.cell? ⟨b, j, none⟩ = #[a0, a1, a2][j]?) (j : Nat) :
    (((w.setCell ⟨b, 0, none⟩ v0).setCell ⟨b, 1, none⟩ v1).setCell ⟨b, 2, none⟩ v2).cell? ⟨b, j, none⟩ = #[v0, v1, v2][j]? := by
  have d1 : (w.setCell ⟨b, 0, none⟩ v0).cell? ⟨b, 1, none⟩ = some a1 := by
    rw [World.cell?_setCell_other _ _ _ _ (by simp)]; exact h 1
  have d2 : ((w.setCell ⟨b, 0, none⟩ v0).setCell ⟨b, 1, none⟩ v1).cell? ⟨b, 2, none⟩ = some a2 := by
    rw [World.cell?_setCell_other _ _ _ _ (by simp), World.cell?_setCell_other _ _ _ _ (by simp)]; exact h 2
  match j with
  | 0 => rw [World.cell?_setCell_other _ _ _ _ (by simp), World.cell?_setCell_other _ _ _ _ (by simp)]; exact World.cell?_setCell_same _ _ _ (h 0)
  | 1 => rw [World.cell?_setCell_other _ _ _ _ (by simp)]; exact World.cell?_setCell_same _ _ _ d1
  | 2 => exact World.cell?_setCell_same _ _ _ d2
  | j + 3 => rw [World.cell?_setCell_other _ _ _ _ (by simp), World.cell?_setCell_other _ _ _ _ (by simp), World.cell?_setCell_other _ _ _ _ (by simp), h]; rfl

theorem sl_set_q11 {α : Type} {enc : α → List Value} {size : Nat} {d : α} {w : World} {n b off : Nat} {xs : List α} (h : SlAt enc size d w (some ⟨b, off, none⟩) n xs) {p : Addr} (u : Value) (hp : b ≠ p.block) : SlAt enc size d (w.setCell p u) (some ⟨b, off, none⟩) n xs := by
  refine ⟨h.1, fun hn => ?_⟩
  obtain ⟨b', off', e, hb, hc⟩ := h.2 hn
  cases e
  refine ⟨b, off, rfl, by simpa using hb, fun k hk j u' hu => ?_⟩
  rw [World.cell?_setCell_other _ _ _ _ (by intro e; subst e; exact hp rfl)]
  exact hc k hk j u' hu
theorem sl_of_own_q11 {α : Type} {enc : α → List Value} {size : Nat} {d : α} (hs : ∀ x, (enc x).length = size) {w : World} {base : Nat} {e : TypeId} {A : Option Addr} {n c : Nat} {xs : List α} (h : w.ownsRow base e size (.slice A n c) n (xs.flatMap enc)) (hl : xs.length = n) : SlAt enc size d w A n xs := by
  obtain ⟨A', c', e, -, hh⟩ := SlAt.of_own (d := d) hs h hl
  cases e
  exact hh

theorem set3_id {w : World} {b : Nat} {v0 v1 v2 : Value} (h0 : w.cell? ⟨b, 0, none⟩ = some v0) (h1 : w.cell? ⟨b, 1, none⟩ = some v1) (h2 : w.cell? ⟨b, 2, none⟩ = some v2) (q : Addr) :
    (((w.setCell ⟨b, 0, none⟩ v0).setCell ⟨b, 1, none⟩ v1).setCell ⟨b, 2, none⟩ v2).cell? q = w.cell? q := by
  have one : ∀ (w : World) (p q : Addr) (v : Value), w.cell? p = some v → (w.setCell p v).cell? q = w.cell? q := fun w p q v h => by
    by_cases e : p = q
    · subst e; rw [World.cell?_setCell_same _ _ _ h, h]
    · rw [World.cell?_setCell_other _ _ _ _ e]
  have k1 := fun q => one w ⟨b, 0, none⟩ q v0 h0
  have k2 := fun q => one (w.setCell ⟨b, 0, none⟩ v0) ⟨b, 1, none⟩ q v1 (by rw [k1, h1])
  have k3 := fun q => one ((w.setCell ⟨b, 0, none⟩ v0).setCell ⟨b, 1, none⟩ v1) ⟨b, 2, none⟩ q v2 (by rw [k2, k1, h2])
  rw [k3, k2, k1]

theorem sl_cong {α : Type} {enc : α → List Value} {size : Nat} {d : α} {w w' : World} {A : Option Addr} {n : Nat} {xs : List α} (h : SlAt enc size d w A n xs) (hc : ∀ q, w'.cell? q = w.cell? q) (hs : w.heap.size ≤ w'.heap.size) : SlAt enc size d w' A n xs := by
  refine ⟨h.1, fun hn => ?_⟩
  obtain ⟨b', off', e, hb, hcc⟩ := h.2 hn
  exact ⟨b', off', e, Nat.lt_of_lt_of_le hb hs, fun k hk j u' hu => (hc _).trans (hcc k hk j u' hu)⟩

theorem sl_drew {α : Type} {enc : α → List Value} {size : Nat} {d : α} {w : World} {A : Option Addr} {n : Nat} {xs : List α} (h : SlAt enc size d w A n xs) : SlAt enc size d w.drew A n xs := h

set_option maxRecDepth 100000 in
set_option maxHeartbeats 3200000 in
theorem Example_c_q11 (w : World) :
    Calls Try.prog 21 #[] w
      fun e w' => ∃ A0 c0 A1 c1 A2 c2 A3 c3, e = .returned (.tuple #[.agg #[.slice A0 3 c0, .slice A1 4 c1, .int .i64 0], .agg #[.slice A2 3 c2, .slice A3 5 c3, .int .i64 0]]) ∧ SpsAt w' A0 3 exPl ∧ LnsAt w' A1 4 exLs ∧ SpsAt w' A2 3 exPl ∧ LnsAt w' A3 5 exLc ∧ Below w.heap.size w w' := by
  go_enter Try.func21, Try.ntmps21
  go_wp2_with fail
  refine (Copy_c_q11 (some ⟨w.heap.size + 1 + 1, 0, none⟩) (some ⟨w.heap.size + 1 + 1 + 1, 0, none⟩) 3 3 4 4 0 exPl exLs _ (by omega) (by omega) (sps_iff.2 (sl_cells_q11 encS_len (al4_2 rfl).1 (al4_2 rfl).2.1 rfl rfl)) (lns_iff.2 (sl_cells_q11 encL_len (al4_3 rfl).1 (al4_3 rfl).2.1 rfl rfl))).mono ?_
  rintro e w1 ⟨A2, c2, A3, c3, rfl, hO, hb1⟩
  obtain ⟨hc1, hf1⟩ := bcell hb1
  have zs1 := hb1.size
  simp only [World.size_alloc] at zs1
  have s0 := fun i => (hc1 w.heap.size i (by first | omega | (simp; done) | (simp; omega))).trans ((al4_0 rfl).2.1 i)
  have s1 := fun i => (hc1 (w.heap.size + 1) i (by first | omega | (simp; done) | (simp; omega))).trans ((al4_1 rfl).2.1 i)
  have s2 := fun i => (hc1 (w.heap.size + 1 + 1) i (by first | omega | (simp; done) | (simp; omega))).trans ((al4_2 rfl).2.1 i)
  have s3 := fun i => (hc1 (w.heap.size + 1 + 1 + 1) i (by first | omega | (simp; done) | (simp; omega))).trans ((al4_3 rfl).2.1 i)
  have g0 := fun i => (hf1 w.heap.size i (by first | omega | (simp; done) | (simp; omega))).trans ((al4_0 rfl).2.2 i)
  have g1 := fun i => (hf1 (w.heap.size + 1) i (by first | omega | (simp; done) | (simp; omega))).trans ((al4_1 rfl).2.2 i)
  have hbw : Below w.heap.size w w1 := by (repeat first | with_reducible assumption | with_reducible exact Below.refl _ _ | (with_reducible refine Below.alloc ?_ ?side _; case side => (first | omega | (with_reducible exact Below.size (by assumption)) | (simp; done) | (simp; omega))) | (with_reducible refine Below.setCell ?_ ?side _; case side => (first | omega | (with_reducible exact Below.size (by assumption)) | (simp; done) | (simp; omega))) | with_reducible refine Below.drew ?_ | with_reducible refine below_drewN ?_ _ | (with_reducible refine below_step (by assumption) ?side ?_; case side => (first | omega | (with_reducible exact Below.size (by assumption)) | (simp; done) | (simp; omega))))
  have HPI : Hid (SpsAt w1 (some ⟨w.heap.size + 1 + 1, 0, none⟩) 3 exPl) := sps_iff.2 (sl_cells_q11 encS_len (by omega) s2 rfl rfl)
  have HLI : Hid (LnsAt w1 (some ⟨w.heap.size + 1 + 1 + 1, 0, none⟩) 4 exLs) := lns_iff.2 (sl_cells_q11 encL_len (by omega) s3 rfl rfl)
  have hO2 : BookOwn (w.heap.size + 4) 3 4 A2 A3 c2 c3 exPl exLs w1 := by simpa using hO
  have HO := Lib.hid hO2
  have n0 : w.heap.size < w1.heap.size := by omega
  have n1 : w.heap.size + 1 < w1.heap.size := by omega
  clear hO hO2 hb1 hc1 hf1
  go_wp2_with (at_builtin; go_must (refine wpList_append_T _ (d := (⟨0, 0, ⟨0, 0⟩, ⟨0, 0⟩⟩ : Ln)) rfl (.tmp 20) (.tmp 23) _ rfl (w.heap.size + 4) _ 6 48 lnE encL_len encL_one (.slice A3 4 c3) _ 4 exLs rfl rfl ?ow _ 1 _ [⟨2, -1, ⟨10, 10⟩, ⟨0, 0⟩⟩] rfl ?sl (by omega) ?bs ?mn))
  case sl => exact sl_new encL_len (by simp) rfl rfl
  case bs => simp; omega
  case ow =>
    refine World.ownsRow.alloc ?_ _
    repeat first | with_reducible exact HO.out.hl | refine own_set_q11 ?_ (fun k hk => by have := (HO.out.hl.lt k hk).1; simp; omega)
  case mn =>
    intro v' w2 hown2 hg2 hat2
    have hown3 : w2.ownsRow (w.heap.size + 4) 52 6 v' 5 (exLc.flatMap encL) := hown2
    clear hown2
    obtain ⟨A5, c5, rfl, -, hs5⟩ := SlAt.of_own (d := (⟨0, 0, ⟨0, 0⟩, ⟨0, 0⟩⟩ : Ln)) encL_len hown3 rfl
    have hO5 : Hid (w2.ownsRow (w.heap.size + 4) 52 6 (.slice A5 5 c5) 5 (exLc.flatMap encL)) := hown3
    have z2 := hg2.size
    simp only [World.size_alloc, World.size_setCell] at z2
    have hbX : ∀ B, B ≤ w.heap.size + 4 → Below B _ w2 := fun B hB => Below.grown (Below.refl _ _) hg2 (by simp; omega) (fun k hk => Nat.le_trans hB (HO.out.hl.lt k hk).1)
    have x1 := fun j => ((hbX (w.heap.size + 4) (Nat.le_refl _)).cell (p := ⟨w.heap.size + 1, j, none⟩) (by show w.heap.size + 1 < _; omega)).trans ((World.cell?_alloc_lt _ _ ⟨w.heap.size + 1, j, none⟩ (by simp; omega)).trans (three_set (v0 := .slice A2 3 c2) (v1 := .slice A3 4 c3) (v2 := .int .i64 0) s1 j))
    have xg : ∀ b j, b < w.heap.size + 4 → b < w1.heap.size → b ≠ w.heap.size + 1 → w2.cell? ⟨b, j, none⟩ = w1.cell? ⟨b, j, none⟩ := fun b j hb hb1 hne =>
      ((hbX (w.heap.size + 4) (Nat.le_refl _)).cell (p := ⟨b, j, none⟩) hb).trans ((World.cell?_alloc_lt _ _ ⟨b, j, none⟩ (by simpa using hb1)).trans (((World.cell?_setCell_other _ _ _ _ (by intro e; injection e with e1; exact hne e1.symm)).trans ((World.cell?_setCell_other _ _ _ _ (by intro e; injection e with e1; exact hne e1.symm)).trans (World.cell?_setCell_other _ _ _ _ (by intro e; injection e with e1; exact hne e1.symm))))))
    have x0 := fun j => (xg w.heap.size j (by omega) n0 (by omega)).trans (s0 j)
    have x2 := fun j => (xg (w.heap.size + 1 + 1) j (by omega) (by omega) (by omega)).trans (s2 j)
    have x3 := fun j => (xg (w.heap.size + 1 + 1 + 1) j (by omega) (by omega) (by omega)).trans (s3 j)
    have r1 := fun j => ((hbX (w.heap.size + 4) (Nat.le_refl _)).frozen (p := ⟨w.heap.size + 1, j, none⟩) (by show w.heap.size + 1 < _; omega)).trans (show _ = false by simp only [frozen?_alloc_cells, World.frozen?_setCell]; exact g1 j)
    have r0 := fun j => ((hbX (w.heap.size + 4) (Nat.le_refl _)).frozen (p := ⟨w.heap.size, j, none⟩) (by show w.heap.size < _; omega)).trans (show _ = false by simp only [frozen?_alloc_cells, World.frozen?_setCell]; exact g0 j)
    have hbE : Below w.heap.size w w2 := Below.grown (by (repeat first | with_reducible assumption | with_reducible exact Below.refl _ _ | (with_reducible refine Below.alloc ?_ ?side _; case side => (first | omega | (with_reducible exact Below.size (by assumption)) | (simp; done) | (simp; omega))) | (with_reducible refine Below.setCell ?_ ?side _; case side => (first | omega | (with_reducible exact Below.size (by assumption)) | (simp; done) | (simp; omega))) | with_reducible refine Below.drew ?_ | with_reducible refine below_drewN ?_ _ | (with_reducible refine below_step (by assumption) ?side ?_; case side => (first | omega | (with_reducible exact Below.size (by assumption)) | (simp; done) | (simp; omega))))) hg2 (by simp; omega) (fun k hk => by have := (HO.out.hl.lt k hk).1; omega)
    have hP5 : Hid (w2.ownsRow (w.heap.size + 4) 29 2 (.slice A2 3 c2) 3 (exPl.flatMap encS)) := by
      refine World.ownsRow.kept (World.ownsRow.alloc ?_ _) hg2 ?_
      · repeat first | with_reducible exact HO.out.hp | refine own_set_q11 ?_ (fun k hk => by have := (HO.out.hp.lt k hk).1; simp; omega)
      · cases e : (Value.slice A2 3 c2).ownBlock with
        | none => exact .inl rfl
        | some k => exact .inr fun h => HO.out.ne k e h.symm
    have HP2 : Hid (SlAt encS 2 ⟨0, 0⟩ w2 (some ⟨w.heap.size + 1 + 1, 0, none⟩) 3 exPl) := sl_cells_q11 encS_len (by omega) x2 rfl rfl
    have HL2 : Hid (SlAt encL 6 ⟨0, 0, ⟨0, 0⟩, ⟨0, 0⟩⟩ w2 (some ⟨w.heap.size + 1 + 1 + 1, 0, none⟩) 4 exLs) := sl_cells_q11 encL_len (by omega) x3 rfl rfl
    clear hg2 hat2 hs5 hown3 hbX s0 s1 g0 g1 xg x2 x3 s2 s3
    have m0 : w.heap.size < w2.heap.size := by omega
    have m1 : w.heap.size + 1 < w2.heap.size := by omega
    go_wp2_with fail
    go_name_world W3 hW3
    have y0 : ∀ j, W3.cell? ⟨w.heap.size, j, none⟩ = #[Value.slice (some ⟨w.heap.size + 1 + 1, 0, none⟩) 3 3, .slice (some ⟨w.heap.size + 1 + 1 + 1, 0, none⟩) 4 4, .int .i64 0][j]? := fun j => by
      rw [← hW3, World.cell?_setCell_other _ _ _ _ (by simp), x0]
    have y1 : W3.cell? ⟨w.heap.size + 1, 0, none⟩ = some (.slice A2 3 c2) := by
      rw [← hW3, World.cell?_setCell_other _ _ _ _ (by simp), x1]; rfl
    have y2 : W3.cell? ⟨w.heap.size + 1, 1, none⟩ = some (.slice A5 5 c5) := by
      rw [← hW3]; exact World.cell?_setCell_same _ _ _ (x1 1)
    have y3 : W3.cell? ⟨w.heap.size + 1, 2, none⟩ = some (.int .i64 0) := by
      rw [← hW3, World.cell?_setCell_other _ _ _ _ (by simp), x1]; rfl
    have t0 : ∀ j, W3.frozen? ⟨w.heap.size, j, none⟩ = false := fun j => by rw [← hW3, World.frozen?_setCell]; exact r0 j
    have t1 : ∀ j, W3.frozen? ⟨w.heap.size + 1, j, none⟩ = false := fun j => by rw [← hW3, World.frozen?_setCell]; exact r1 j
    have HP3 : Hid (SlAt encS 2 ⟨0, 0⟩ W3 (some ⟨w.heap.size + 1 + 1, 0, none⟩) 3 exPl) := by rw [← hW3]; exact sl_set_q11 HP2.out _ (by simp; try omega)
    have HL3 : Hid (SlAt encL 6 ⟨0, 0, ⟨0, 0⟩, ⟨0, 0⟩⟩ W3 (some ⟨w.heap.size + 1 + 1 + 1, 0, none⟩) 4 exLs) := by rw [← hW3]; exact sl_set_q11 HL2.out _ (by simp; try omega)
    have OP3 : Hid (W3.ownsRow (w.heap.size + 4) 29 2 (.slice A2 3 c2) 3 (exPl.flatMap encS)) := by
      rw [← hW3]; exact own_set_q11 hP5.out (fun k hk => by have := (hP5.out.lt k hk).1; simp; omega)
    have OL3 : Hid (W3.ownsRow (w.heap.size + 4) 52 6 (.slice A5 5 c5) 5 (exLc.flatMap encL)) := by
      rw [← hW3]; exact own_set_q11 hO5.out (fun k hk => by have := (hO5.out.lt k hk).1; simp; omega)
    have hb3 : Below w.heap.size w W3 := by rw [← hW3]; (repeat first | with_reducible assumption | with_reducible exact Below.refl _ _ | (with_reducible refine Below.alloc ?_ ?side _; case side => (first | omega | (with_reducible exact Below.size (by assumption)) | (simp; done) | (simp; omega))) | (with_reducible refine Below.setCell ?_ ?side _; case side => (first | omega | (with_reducible exact Below.size (by assumption)) | (simp; done) | (simp; omega))) | with_reducible refine Below.drew ?_ | with_reducible refine below_drewN ?_ _ | (with_reducible refine below_step (by assumption) ?side ?_; case side => (first | omega | (with_reducible exact Below.size (by assumption)) | (simp; done) | (simp; omega))))
    have z3 : w2.heap.size ≤ W3.heap.size := by rw [← hW3]; simp
    clear hW3 x0 x1 r0 r1
    have y00 := y0 0
    have y01 := y0 1
    have y02 := y0 2
    have HQ3 : Hid (SlAt encS 2 ⟨0, 0⟩ W3 A2 3 exPl) := sl_of_own_q11 encS_len OP3.out rfl
    have HM3 : Hid (SlAt encL 6 ⟨0, 0, ⟨0, 0⟩, ⟨0, 0⟩⟩ W3 A5 5 exLc) := sl_of_own_q11 encL_len OL3.out rfl
    have ZE : Hid (∀ q, ((((((W3.setCell ⟨w.heap.size, 0, none⟩ (.slice (some ⟨w.heap.size + 1 + 1, 0, none⟩) 3 3)).setCell ⟨w.heap.size, 1, none⟩ (.slice (some ⟨w.heap.size + 1 + 1 + 1, 0, none⟩) 4 4)).setCell ⟨w.heap.size, 2, none⟩ (.int .i64 0)).setCell ⟨w.heap.size + 1, 0, none⟩ (.slice A2 3 c2)).setCell ⟨w.heap.size + 1, 1, none⟩ (.slice A5 5 c5)).setCell ⟨w.heap.size + 1, 2, none⟩ (.int .i64 0)).cell? q = W3.cell? q) := fun q =>
      (set3_id ((set3_id y00 y01 y02 _).trans y1) ((set3_id y00 y01 y02 _).trans y2) ((set3_id y00 y01 y02 _).trans y3) q).trans (set3_id y00 y01 y02 q)
    clear OP3 OL3
    go_region
    all_goals
      go_wp2
      refine bodyPost_ret (v := .tuple #[.agg #[.slice (some ⟨w.heap.size + 1 + 1, 0, none⟩) 3 3, .slice (some ⟨w.heap.size + 1 + 1 + 1, 0, none⟩) 4 4, .int .i64 0], .agg #[.slice A2 3 c2, .slice A5 5 c5, .int .i64 0]]) ?_ rfl ⟨_, _, _, _, _, _, _, _, rfl, sps_iff.2 (sl_drew (sl_cong HP3.out ZE.out ?_)), lns_iff.2 (sl_drew (sl_cong HL3.out ZE.out ?_)), sps_iff.2 (sl_drew (sl_cong HQ3.out ZE.out ?_)), lns_iff.2 (sl_drew (sl_cong HM3.out ZE.out ?_)), ?_⟩
      · simp [results, Try.results21, go_sem, y0, y1, y2, y3]
      · simp
      · simp
      · simp
      · simp
      · (repeat first | with_reducible assumption | with_reducible exact Below.refl _ _ | (with_reducible refine Below.alloc ?_ ?side _; case side => (first | omega | (with_reducible exact Below.size (by assumption)) | (simp; done) | (simp; omega))) | (with_reducible refine Below.setCell ?_ ?side _; case side => (first | omega | (with_reducible exact Below.size (by assumption)) | (simp; done) | (simp; omega))) | with_reducible refine Below.drew ?_ | with_reducible refine below_drewN ?_ _ | (with_reducible refine below_step (by assumption) ?side ?_; case side => (first | omega | (with_reducible exact Below.size (by assumption)) | (simp; done) | (simp; omega))))

end Go.Proofs.Ytdhlnlmhdacblaa

namespace Go.Proofs.Ytdhlnlmhdacblaa
open Go.RowKit
open Go.Sort (grow)
set_option linter.unusedVariables false
set_option linter.unusedSimpArgs false



end Go.Proofs.Ytdhlnlmhdacblaa

namespace Go.Proofs.Ytdhlnlmhdacblaa
open Go.RowKit
open Go.Sort (grow)
set_option linter.unusedVariables false
set_option linter.unusedSimpArgs false

def hsB (s : Nat) (i : Int) : Bool := decide (0 ≤ i) && s.testBit i.toNat
theorem hasB_c (s : Nat) (i : Int) (w : World) (hs : s < 65536) (hi : i < 64) :
    Calls Try.prog 66 #[.int .u64 s, .int .i64 i] w fun e w' => e = .returned (.bool (hsB s i)) ∧ w = w' := has_c_q11 s i w hs hi
def sumF (f : Nat → Int) : Nat → Int
  | 0 => 0
  | k + 1 => sumF f k + f k
/-- what line l brings to the places of a set: at the least, at the most -/
def prA (s : Nat) (l : Ln) : Int := bif hsB s l.to then (bif hsB s l.fr then -l.s.hi else l.w.lo - l.s.hi) else (bif hsB s l.fr then -l.w.hi else 0)
def prB (s : Nat) (l : Ln) : Int := bif hsB s l.to then (bif hsB s l.fr then -l.s.lo else l.w.hi - l.s.lo) else (bif hsB s l.fr then -l.w.lo else 0)
def prC (s : Nat) (pl : List Sp) (i : Nat) : Int := bif hsB s (i : Int) then -(spAt pl i).hi else 0
def prD (s : Nat) (pl : List Sp) (i : Nat) : Int := bif hsB s (i : Int) then -(spAt pl i).lo else 0
def leastV (np nl : Nat) (pl : List Sp) (ls : List Ln) (s : Nat) : Int := sumF (fun i => prA s (lnAt ls i)) nl + sumF (prC s pl) np
def mostV (np nl : Nat) (pl : List Sp) (ls : List Ln) (s : Nat) : Int := sumF (fun i => prB s (lnAt ls i)) nl + sumF (prD s pl) np
def prvB (np nl : Nat) (pl : List Sp) (ls : List Ln) (s : Nat) : Bool := decide (0 < leastV np nl pl ls s) || decide (mostV np nl pl ls s < 0)
theorem sumF_bd {f : Nat → Int} {M : Int} (h : ∀ k, -M ≤ f k ∧ f k ≤ M) (k : Nat) : -(k * M) ≤ sumF f k ∧ sumF f k ≤ k * M := by
  induction k with
  | zero => simp [sumF]
  | succ k ih =>
    have := h k
    have e : ((k + 1 : Nat) : Int) * M = k * M + M := by rw [Int.natCast_add, Int.add_mul]; simp
    simp only [sumF, e]
    omega
theorem prA_bd {np nl : Nat} {pl : List Sp} {ls : List Ln} (h : OkBk np nl pl ls) (s k : Nat) : (-1998 ≤ prA s (lnAt ls k) ∧ prA s (lnAt ls k) ≤ 1998) ∧ -1998 ≤ prB s (lnAt ls k) ∧ prB s (lnAt ls k) ≤ 1998 := by
  have := h.ln k
  unfold prA prB
  cases hsB s (lnAt ls k).to <;> cases hsB s (lnAt ls k).fr <;> simp <;> omega
theorem prC_bd {np nl : Nat} {pl : List Sp} {ls : List Ln} (h : OkBk np nl pl ls) (s k : Nat) : (-999 ≤ prC s pl k ∧ prC s pl k ≤ 999) ∧ -999 ≤ prD s pl k ∧ prD s pl k ≤ 999 := by
  have := h.sp k
  unfold prC prD
  cases hsB s (k : Int) <;> simp <;> omega

end Go.Proofs.Ytdhlnlmhdacblaa

namespace Go.Proofs.Ytdhlnlmhdacblaa
open Go.RowKit
open Go.Sort (grow)
set_option linter.unusedVariables false
set_option linter.unusedSimpArgs false

/-- the first set of places that proves -/
def prfO (np nl : Nat) (pl : List Sp) (ls : List Ln) : Option Nat := (List.range (2 ^ np)).find? fun s => s != 0 && prvB np nl pl ls s
/-- the members of a set below k -/
def memK (s k : Nat) : List Nat := (List.range k).filter s.testBit
theorem memK_succ {s k : Nat} (h : s.testBit k = true) : memK s (k + 1) = memK s k ++ [k] := by simp [memK, List.range_succ, List.filter_append, h]
theorem memK_succ_no {s k : Nat} (h : s.testBit k = false) : memK s (k + 1) = memK s k := by simp [memK, List.range_succ, List.filter_append, h]
theorem memK_len (s k : Nat) : (memK s k).length ≤ k := by
  have := List.length_filter_le s.testBit (List.range k)
  simpa [memK] using this
theorem prfO_none {np nl : Nat} {pl : List Sp} {ls : List Ln} (h : ∀ s, s < 2 ^ np → (s != 0 && prvB np nl pl ls s) = false) : prfO np nl pl ls = none := by
  unfold prfO
  rw [List.find?_eq_none]
  intro s hs
  simp only [h s (by simpa using hs)]
  simp
theorem prfO_some {np nl s : Nat} {pl : List Sp} {ls : List Ln} (hs : s < 2 ^ np) (h : (s != 0 && prvB np nl pl ls s) = true) (h0 : ∀ t, t < s → (t != 0 && prvB np nl pl ls t) = false) : prfO np nl pl ls = some s := by
  have h1 := idxN_some (n := 2 ^ np) (p := fun s => s != 0 && prvB np nl pl ls s) hs h h0
  unfold idxN at h1
  unfold prfO
  cases e : (List.range (2 ^ np)).find? (fun s => s != 0 && prvB np nl pl ls s) with
  | none => rw [e] at h1; simp at h1
  | some j => rw [e] at h1; simp at h1; simp; omega

/-- what Proof hands back -/
def PrfRet (np nl : Nat) (pl : List Sp) (ls : List Ln) (wrg : Int) (e : Ending) (w' : World) : Prop :=
  bif ckBk np nl pl ls wrg then (match prfO np nl pl ls with
    | none => e = .returned (.tuple #[.slice none 0 0, .int .i64 3])
    | some s => ∃ A c, e = .returned (.tuple #[.slice A (memK s np).length c, .int .i64 0]) ∧ IntsAt w' A (memK s np).length ((memK s np).map fun k : Nat => (k : Int)))
  else e = .returned (.tuple #[.slice none 0 0, .int .i64 110])

end Go.Proofs.Ytdhlnlmhdacblaa
