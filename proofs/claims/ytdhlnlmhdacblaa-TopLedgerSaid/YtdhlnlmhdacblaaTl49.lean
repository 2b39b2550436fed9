/- weighed of the statements about the program through its layers: its examples; TopLedger: the whole law. -/
import Derived.Test.YtdhlnlmhdacblaaTl41
import Derived.Test.YtdhlnlmhdacblaaTl43
import Derived.Test.YtdhlnlmhdacblaaTl45
import Derived.Test.YtdhlnlmhdacblaaTl47
import Derived.Handy
import Derived.Deep.DrawnRows
import Derived.Deep.DeepCutAuto
import Derived.Test.YtdhlnlmhdacblaaTl21
import Derived.Test.YtdhlnlmhdacblaaTl48
namespace Go.Proofs.Ytdhlnlmhdacblaa
open Go.RowKit
open Go.Sort (grow)
set_option linter.unusedVariables false
set_option linter.unusedSimpArgs false

theorem ev_cut : cutV exB exP 5 0 3 [] 2 = 3 := by kernel_rfl
theorem ev_ck2 : ck2 [⟨1, 0, 0, 1, 0⟩] [] 1 0 0 = true := by kernel_rfl
theorem ev_ln2 : ln2 [⟨1, 0, 0, 1, 0⟩] 1 = 1 := by kernel_rfl
set_option maxRecDepth 100000 in
set_option maxHeartbeats 3200000 in
theorem weighed_c (w : World) : Calls Try.prog 13 #[] w fun e w' => e = .returned (.bool true) ∧ Below w.heap.size w w' := by
  have hsaw := Lib.hid (fun (A1 A2 : Option Addr) (ms : List Pm) (W : World) (h1 : BrsAt W A1 3 exB) (h2 : PcsAt W A2 3 ms exP) =>
    sawnO_c A1 A2 3 3 3 3 5 0 exB ms exP W 2 (by omega) (by omega) ex_h3 h1 h2 (ev_ask true rfl) ev_least 0 5 65 70 (by rw [ev_cut]; rfl) (by rfl) (by kernel_rfl) (by kernel_rfl))
  have hlen := Lib.hid (fun (A : Option Addr) (c : Nat) (W : World) (h : DdsAt W A 1 [⟨1, 0, 0, 1, 0⟩]) => Length2_c A none 1 c 0 0 0 [⟨1, 0, 0, 1, 0⟩] [] W (by omega) (by omega) ev_ck2 h ⟨rfl, fun h => absurd h (by omega)⟩)
  rw [ev_ln2] at hlen
  go_enter Try.func13, Try.ntmps13
  go_wp2_with fail
  refine (Example_c_q11 _).mono ?_
  rintro e w1 ⟨A0, c0, A1, c1, A2, c2, A3, c3, rfl, h1, h2, -, -, hb1⟩
  have H1 := Lib.hid h1
  have H2 := Lib.hid h2
  clear h1 h2
  go_upto_region 2 with (fail)
  go_name_world Y hY
  have BY : Below w1.heap.size w1 Y := (al2 hY).1
  have q0 := (al2_0 hY).2.1
  have l0 := (al2_0 hY).1
  have bY : Below w.heap.size w Y := hb1.trans (BY.mono hb1.size)
  clear hY
  go_wp2_with fail
  refine (Line_c A0 A1 3 c0 4 c1 0 2 exPl exLs _ (by omega) (by omega) (H1.out.later BY) (H2.out.later BY)).mono ?_
  rw [ev_a1]
  rintro e w2 ⟨rfl, hb2⟩
  have b2 : Below w.heap.size w w2 := bY.trans (hb2.mono bY.size)
  clear hb1 hb2 q0 H1 H2 BY bY l0
  go_upto_region 3 with (fail)
  go_name_world Z hZ
  have KZ : Hid (Blk Z w2.heap.size 29 #[.int .i64 55, .int .i64 58]) := Lib.hid (by rw [← hZ]; exact Blk.new w2 _ _)
  have bZ : Below w.heap.size w Z := b2.trans ((al1 hZ).1.mono b2.size)
  clear hZ b2
  go_wp2_with fail
  refine (hlen.out _ _ _ (sl_new encD_len rfl rfl rfl)).mono ?_
  rintro e w3 ⟨rfl, hb3⟩
  have b3 : Below w.heap.size w w3 := (bZ.alloc bZ.size _).trans (hb3.mono (by simp only [World.size_alloc]; have := bZ.size; omega))
  have K3 := Lib.hid ((KZ.out.alloc _).below hb3 (KZ.out.alloc _).lt)
  clear hb3 KZ bZ
  go_wp2_with fail
  refine (Example_c _).mono ?_
  rintro e w4 ⟨B1, B2, ms, rfl, h5, h6, hb4⟩
  have H5 := Lib.hid h5
  have H6 := Lib.hid h6
  have b4 : Below w.heap.size w w4 := b3.trans (hb4.mono b3.size)
  have K4 := Lib.hid (K3.out.below hb4 K3.out.lt)
  clear h5 h6 hb4 K3 b3
  go_wp2_with fail
  refine (hsaw.out _ _ ms _ H5.out H6.out).mono ?_
  rintro e w5 ⟨rfl, hb5⟩
  have b5 : Below w.heap.size w w5 := b4.trans (hb5.mono b4.size)
  have K5 := Lib.hid (K4.out.below hb5 K4.out.lt)
  clear hb5 K4 b4 H5 H6
  go_upto_region 5 with (fail)
  go_name_world V hV
  have k3 := ((al2 hV).1.cell (p := ⟨w2.heap.size, 0, none⟩) K5.out.lt).trans (K5.out.cell 0)
  have k3b := ((al2 hV).1.cell (p := ⟨w2.heap.size, 1, none⟩) K5.out.lt).trans (K5.out.cell 1)
  have k7 := (al2_0 hV).2.1
  have l7 := (al2_0 hV).1
  have l3 : w2.heap.size < V.heap.size := Nat.lt_of_lt_of_le K5.out.lt (al2 hV).1.size
  have b6 : Below w.heap.size w V := b5.trans ((al2 hV).1.mono b5.size)
  clear hV
  go_wp2_with fail
  go_ret
  exact ⟨rfl, b6⟩

end Go.Proofs.Ytdhlnlmhdacblaa

namespace Go.Proofs.Ytdhlnlmhdacblaa
open Go.RowKit
open Go.Sort (grow)
set_option linter.unusedVariables false
set_option linter.unusedSimpArgs false

theorem ln2_pos {ds : List Dd} {n : Nat} (h : ∀ k, k < n → dk2 (ddAt ds k) (ln2 ds k) = true) : ∀ k, k ≤ n → 0 ≤ ln2 ds k := by
  intro k
  induction k with
  | zero => intro _; rw [ln2_0]; omega
  | succ k ih =>
    intro hk
    have h1 := ih (by omega)
    have h2 := h k (by omega)
    rw [ln2_succ]
    unfold dk2 at h2
    unfold gr2
    cases e1 : (ddAt ds k).wh == 1
    · cases e2 : (ddAt ds k).wh == 2
      · simp; omega
      · rw [e1, e2] at h2
        simp only [cond_true, cond_false, Bool.and_eq_true, wn_true] at h2
        simp
        omega
    · simp; omega
theorem ck2_vals {ds ss : List Dd} {nd ns : Nat} {wr : Int} (h : ck2 ds ss nd ns wr = true) : nd ≤ 12 ∧ 0 ≤ ln2 ds nd ∧ ln2 ds nd ≤ 12 := by
  unfold ck2 at h
  simp only [Bool.and_eq_true, decide_eq_true_eq] at h
  obtain ⟨h1, -, -, h4, -⟩ := h
  have h5 := ln2_pos (allN_iff.1 h4) nd (Nat.le_refl _)
  have h6 := ln2_bd (ds := ds) nd
  exact ⟨h1, h5, by omega⟩
section
variable {L : List Ln} {nl : Nat} {T : Int}
theorem led_calls (h : Lg L nl T) (h0 : 0 ≤ T ∧ T ≤ 12) (A B : Option Addr) (c d : Nat) (W : World) (HP : SpsAt W A 1 [⟨0, 12⟩]) (HL : LnsAt W B nl L) :
    (Calls Try.prog 16 #[.agg #[.slice A 1 c, .slice B nl d, .int .i64 0]] W fun e w' => e = .returned (.tuple #[.int .i64 0, .int .i64 0]) ∧ Below W.heap.size W w') ∧
    (Calls Try.prog 17 #[.agg #[.slice A 1 c, .slice B nl d, .int .i64 0], .int .i64 0] W fun e w' => e = .returned (.tuple #[.agg #[.int .i64 T, .int .i64 T], .int .i64 0]) ∧ Below W.heap.size W w') := by
  obtain ⟨a1, a2, a3⟩ := h.first h0
  have h8 := h.le
  have k1 := fewest_c_q11 A B 1 c nl d 0 [⟨0, 12⟩] L W (by omega) (by omega) HP HL
  have k2 := Stock_c A B 1 c nl d 0 0 [⟨0, 12⟩] L W (by omega) (by omega) HP HL
  rw [a2] at k1
  rw [show isNo 0 1 = true by decide, a1, show 2 * nl + Int.toNat 0 = 2 * nl by rfl, a3] at k2
  exact ⟨k1, k2⟩
theorem led_more (h : Lg L nl T) (h0 : 0 ≤ T ∧ T ≤ 12) (hn : 0 < nl) (A B : Option Addr) (c d : Nat) (W : World) (HP : SpsAt W A 1 [⟨T + 1, T + 1⟩]) (HL : LnsAt W B nl L) :
    Calls Try.prog 16 #[.agg #[.slice A 1 c, .slice B nl d, .int .i64 0]] W fun e w' => e = .returned (.tuple #[.int .i64 1, .int .i64 0]) ∧ Below W.heap.size W w' := by
  have h8 := h.le
  have k1 := fewest_c_q11 A B 1 c nl d 0 [⟨T + 1, T + 1⟩] L W (by omega) (by omega) HP HL
  rw [h.second h0 hn] at k1
  exact k1
theorem led_none (h : Lg L 0 T) (h0 : 0 ≤ T ∧ T ≤ 12) (A B : Option Addr) (c d : Nat) (W : World) (HP : SpsAt W A 1 [⟨T + 1, T + 1⟩]) (HL : LnsAt W B 0 L) :
    Calls Try.prog 16 #[.agg #[.slice A 1 c, .slice B 0 d, .int .i64 0]] W fun e w' => e = .returned (.tuple #[.int .i64 0, .int .i64 3]) ∧ Below W.heap.size W w' := by
  have k1 := fewest_c_q11 A B 1 c 0 d 0 [⟨T + 1, T + 1⟩] L W (by omega) (by omega) HP HL
  rw [h.empty h0] at k1
  exact k1
end
theorem lgOf_1 {d : Dd} (h : (d.wh == 1) = true) : lgOf d = [lgW] := by unfold lgOf; rw [h]; rfl
theorem lgOf_2 {d : Dd} (h1 : (d.wh == 1) = false) (h : (d.wh == 2) = true) : lgOf d = [lgC] := by unfold lgOf; rw [h1, h]; rfl
theorem lgOf_3 {d : Dd} (h1 : (d.wh == 1) = false) (h : (d.wh == 2) = false) : lgOf d = [] := by unfold lgOf; rw [h1, h]; rfl
theorem But3.low {go gr gc : Nat} {V W W' : World} (h : But3 go gr gc V W) (hb : Below V.heap.size W W') : But3 go gr gc V W' :=
  ⟨hb.os.trans h.os, hb.tape.trans h.tape, hb.output.trans h.output, Nat.le_trans h.size hb.size, fun k h1 h2 h3 h4 => (hb.block k h1).trans (h.same k h1 h2 h3 h4)⟩
set_option maxRecDepth 100000 in
set_option maxHeartbeats 6400000 in
theorem TopLedger_law_c (A As : Option Addr) (n c ns cs : Nat) (wrg : Int) (ds ss : List Dd) (w : World) (HD : DdsAt w A n ds) (HS : DdsAt w As ns ss) :
    Calls Try.prog 4 #[.agg #[.slice A n c, .slice As ns cs, .int .i64 wrg]] w fun e w' => e = .returned (.bool true) ∧ Below w.heap.size w w' := by
  have hwk := Lib.hid weighed_c
  have hfar := Lib.hid (fun Z (hZ : Below w.heap.size w Z) => Far2_c A As n c ns cs wrg ds ss Z (HD.later hZ) (HS.later hZ))
  have HDI := Lib.hid HD
  have HSI := Lib.hid HS
  clear HD HS
  go_enter Try.func4, Try.ntmps4
  go_wp2_with fail
  obtain ⟨X, hX⟩ : ∃ X, w.alloc (.cells #[.slice A n c, .slice As ns cs, .int .i64 wrg] 42) = X := ⟨_, rfl⟩
  rw [hX]
  have BX : Below w.heap.size w X := (al1 hX).1
  have P0 := Lib.hid (al1_0 hX).2.1
  have n0 := (al1_0 hX).1
  clear hX
  refine (hfar.out X BX).mono ?_
  rintro e w1 ⟨⟨f, rfl, hf⟩, hb1⟩
  have b1 : Below w.heap.size w w1 := BX.trans (hb1.mono BX.size)
  have C1 := Lib.hid (fun j => (hb1.cell (p := ⟨w.heap.size, j, none⟩) n0).trans (P0.out j))
  have n1 : w.heap.size < w1.heap.size := Nat.lt_of_lt_of_le n0 hb1.size
  clear hb1 hfar
  cases f
  case true =>
    go_wp2_with fail
    refine (hwk.out _).mono ?_
    rintro e w99 ⟨rfl, hb99⟩
    go_wp2
    go_ret
    exact ⟨rfl, (b1).trans (hb99.mono (b1).size)⟩
  obtain ⟨h1, h2⟩ := hf rfl
  have hrc := Lib.hid (refCheck2_c A As n c ns cs wrg ds ss w1 h1 h2 (HDI.out.later b1) (HSI.out.later b1))
  obtain ⟨ck, hck⟩ : ∃ b, ck2 ds ss n ns wrg = b := ⟨_, rfl⟩
  rw [hck] at hrc
  have HCK := Lib.hid hck
  have c1 := C1.out
  clear hck hf
  go_wp2_with fail
  refine hrc.out.mono ?_
  rintro e w2 ⟨rfl, hb2⟩
  have b2 : Below w.heap.size w w2 := b1.trans (hb2.mono b1.size)
  have C2 := Lib.hid (fun j => (hb2.cell (p := ⟨w.heap.size, j, none⟩) n1).trans (C1.out j))
  have n2 : w.heap.size < w2.heap.size := Nat.lt_of_lt_of_le n1 hb2.size
  clear hb2 c1 hrc
  cases ck
  case false =>
    have e20 : er2 false = 20 := rfl
    go_wp2_with fail
    refine (hwk.out _).mono ?_
    rintro e w99 ⟨rfl, hb99⟩
    go_wp2
    go_ret
    exact ⟨rfl, (b2).trans (hb99.mono (b2).size)⟩
  have e20 : er2 true = 0 := rfl
  obtain ⟨h12, hT0, hT12⟩ := ck2_vals HCK.out
  go_upto_region 5 with (fail)
  go_name_world V hV
  have BV : Below w2.heap.size w2 V := (al3 hV).1
  have zV : V.heap.size = w2.heap.size + 3 := (al3 hV).2
  have K0 := Lib.hid (by rw [← hV]; exact ((Blk.new w2 29 #[.int .i64 0, .int .i64 12]).alloc _).alloc _ : Blk V w2.heap.size 29 #[.int .i64 0, .int .i64 12])
  have K1 : Hid (Blk V (w2.heap.size + 1) 48 #[.slice (some ⟨w2.heap.size, 0, none⟩) 1 1, .slice none 0 0, .int .i64 0]) := Lib.hid (by
    rw [← hV]
    have h0 := (Blk.new (w2.alloc (.cells #[.int .i64 0, .int .i64 12] 29)) 48 #[.slice (some ⟨w2.heap.size, 0, none⟩) 1 1, .slice none 0 0, .int .i64 0]).alloc (.cells #[.int .i64 1, .int .i64 1] 29)
    simp only [World.size_alloc] at h0
    exact h0)
  have q2 := (al3_2 hV).2.1
  have Q2 := Lib.hid q2
  have l2 := (al3_2 hV).1
  have b3 : Below w.heap.size w V := b2.trans (BV.mono b2.size)
  have CV := Lib.hid (fun j => (BV.cell (p := ⟨w.heap.size, j, none⟩) n2).trans (C2.out j))
  have n3 : w.heap.size < V.heap.size := by omega
  have hgl : (w2.heap.size + 1) < V.heap.size := by omega
  have cv := CV.out
  clear hV BV q2
  go_wp2_with fail
  clear cv
  go_loopw [5] (fun i (wr : World) => ∃ (k : Nat) (v : Value), k ≤ n ∧ i = .int .i64 k ∧ Hid (Blk wr (w2.heap.size + 1) 48 #[.slice (some ⟨w2.heap.size, 0, none⟩) 1 1, v, .int .i64 0]) ∧ Hid (wr.ownsRow V.heap.size 52 6 v (lgL ds k).length ((lgL ds k).flatMap encL)) ∧ Hid (But3 (w2.heap.size + 1) (w2.heap.size + 1) (w2.heap.size + 1) V wr)) (fun i _ => n - (intOf i).toNat)
  case atStart => exact ⟨0, .slice none 0 0, by omega, rfl, K1, Lib.hid (World.ownsRow_nil V V.heap.size _ 6), Lib.hid (But3.refl _ _ _ _)⟩
  case round =>
    obtain ⟨k, v, hk, rfl, KB, HO, BT⟩ := hrel
    have zb := BT.out.size
    have hbw : Below w.heap.size w wr := BT.out.below ⟨by omega, by omega, by omega⟩ b3 b3.size
    have cc := fun j => (BT.out.cell (p := ⟨w.heap.size, j, none⟩) n3 ⟨by show w.heap.size ≠ _; omega, by show w.heap.size ≠ _; omega, by show w.heap.size ≠ _; omega⟩).trans (CV.out j)
    have n4 : w.heap.size < wr.heap.size := by omega
    have kb := KB.out.cell
    have fb := KB.out.frozen
    have lb := KB.out.lt
    have hvb : ∀ q, v.ownBlock = some q → q ≠ (w2.heap.size + 1) := fun q hq => by have := (HO.out.lt q hq).1; omega
    obtain ⟨A7, d7, rfl, -, hsl⟩ := SlAt.of_own (d := (⟨0, 0, ⟨0, 0⟩, ⟨0, 0⟩⟩ : Ln)) encL_len HO.out rfl
    have hlen := lgL_len (ds := ds) k
    obtain ⟨v, hv⟩ : ∃ v, Value.slice A7 (lgL ds k).length d7 = v := ⟨_, rfl⟩
    rw [hv] at HO hvb
    by_cases hkn : k < n
    · have hqB : decide ((k : Int) < n) = true := by simp; omega
      obtain ⟨bb, bo, hAbe, hbb, y0, -, -, -, -⟩ := (HDI.out.later hbw).get hkn
      subst hAbe
      have qq := fun j => (BT.out.cell (p := ⟨w2.heap.size + 1 + 1, j, none⟩) l2 ⟨by show w2.heap.size + 1 + 1 ≠ _; omega, by show w2.heap.size + 1 + 1 ≠ _; omega, by show w2.heap.size + 1 + 1 ≠ _; omega⟩).trans (Q2.out j)
      have n5 : w2.heap.size + 1 + 1 < wr.heap.size := by omega
      obtain ⟨d, hd⟩ : ∃ d, ddAt ds k = d := ⟨_, rfl⟩
      rw [hd] at y0
      rw [hv] at kb
      clear hsl
      subst hv
      cases e1 : (d.wh == 1)
      · cases e2 : (d.wh == 2)
        · have hls := lgL_succ (ds := ds) (k := k)
          rw [hd, lgOf_3 e1 e2, List.append_nil] at hls
          have HLS := Lib.hid hls
          clear hls hd
          go_wp2_with fail
          go_roundw
          case rel => exact ⟨k + 1, .slice A7 (lgL ds k).length d7, by omega, by go_num, KB, by rw [HLS.out]; exact HO, BT⟩
          case measure => simp [intOf]; omega
        · skip
          have hls := lgL_succ (ds := ds) (k := k)
          rw [hd, lgOf_2 e1 e2] at hls
          have HLS := Lib.hid hls
          clear hls hd
          go_wp2_with (at_builtin; go_must (refine wpList_append_T _ (d := (⟨0, 0, ⟨0, 0⟩, ⟨0, 0⟩⟩ : Ln)) rfl (.tmp 49) (.tmp 52) _ rfl V.heap.size _ 6 48 lnE encL_len encL_one (.slice A7 (lgL ds k).length d7) (Value.slice A7 (lgL ds k).length d7).ownBlock (lgL ds k).length (lgL ds k) rfl rfl ?ow _ 1 _ [lgC] rfl ?sl (by omega) ?sz ?_; (case ow => exact own_below HO.out (by (repeat first | with_reducible assumption | with_reducible exact Below.refl _ _ | (with_reducible refine Below.alloc ?_ ?side _; case side => (first | omega | (with_reducible exact Below.size (by assumption)) | (simp; done) | (simp; omega))) | (with_reducible refine Below.setCell ?_ ?side _; case side => (first | omega | (with_reducible exact Below.size (by assumption)) | (simp; done) | (simp; omega))) | with_reducible refine Below.drew ?_ | with_reducible refine below_drewN ?_ _ | (with_reducible refine below_step (by assumption) ?side ?_; case side => (first | omega | (with_reducible exact Below.size (by assumption)) | (simp; done) | (simp; omega)))))); (case sl => exact sl_new encL_len (by first | rfl | simp) rfl rfl); (case sz => simp only [World.size_alloc]; omega); (rintro v8 w8 ho8 hg8 ha8); (obtain ⟨A8, d8, rfl, -, -⟩ := SlAt.of_own (d := (⟨0, 0, ⟨0, 0⟩, ⟨0, 0⟩⟩ : Ln)) encL_len ho8 (by simp)); (have KB8 := Lib.hid ((KB.out.alloc _).grown hg8 (fun e => hvb _ e.symm rfl))); (have HO8 := Lib.hid ho8); (have BT8 : Hid (But3 (w2.heap.size + 1) (w2.heap.size + 1) (w2.heap.size + 1) V w8) := Lib.hid (BT.out.low (Below.grown ((Below.refl _ _).alloc zb _) hg8 (by simp only [World.size_alloc]; omega) (own_ge HO.out)))); (have kb8 := KB8.out.cell); (have fb8 := KB8.out.frozen); (have lb8 := KB8.out.lt); (clear ho8 hg8 ha8)))
          have KB9 : Hid (Blk (w8.setCell ⟨(w2.heap.size + 1), 1, none⟩ (.slice A8 ((lgL ds k).length + 1) d8)) (w2.heap.size + 1) 48 #[.slice (some ⟨w2.heap.size, 0, none⟩) 1 1, .slice A8 ((lgL ds k).length + 1) d8, .int .i64 0]) := Lib.hid (by have h := KB8.out.set_ 1 (.slice A8 ((lgL ds k).length + 1) d8); simpa using h)
          have HO9 : Hid ((w8.setCell ⟨(w2.heap.size + 1), 1, none⟩ (.slice A8 ((lgL ds k).length + 1) d8)).ownsRow V.heap.size 52 6 (.slice A8 ((lgL ds k).length + 1) d8) ((lgL ds k).length + 1) ((lgL ds k ++ [lgC]).flatMap encL)) := Lib.hid (own_set HO8.out (fun q hq => by have := (HO8.out.lt q hq).1; show q ≠ (w2.heap.size + 1); omega))
          have BT9 : Hid (But3 (w2.heap.size + 1) (w2.heap.size + 1) (w2.heap.size + 1) V (w8.setCell ⟨(w2.heap.size + 1), 1, none⟩ (.slice A8 ((lgL ds k).length + 1) d8))) := Lib.hid (BT8.out.trans (.set (p := ⟨(w2.heap.size + 1), 1, none⟩) (.inl rfl) _))
          go_roundw
          case rel => exact ⟨k + 1, .slice A8 ((lgL ds k).length + 1) d8, by omega, by go_num, KB9, by rw [HLS.out, List.length_append]; exact HO9, BT9⟩
          case measure => simp [intOf]; omega
      · skip
        have hls := lgL_succ (ds := ds) (k := k)
        rw [hd, lgOf_1 e1] at hls
        have HLS := Lib.hid hls
        clear hls hd
        go_wp2_with (at_builtin; go_must (refine wpList_append_T _ (d := (⟨0, 0, ⟨0, 0⟩, ⟨0, 0⟩⟩ : Ln)) rfl (.tmp 40) (.tmp 43) _ rfl V.heap.size _ 6 48 lnE encL_len encL_one (.slice A7 (lgL ds k).length d7) (Value.slice A7 (lgL ds k).length d7).ownBlock (lgL ds k).length (lgL ds k) rfl rfl ?ow _ 1 _ [lgW] rfl ?sl (by omega) ?sz ?_; (case ow => exact own_below HO.out (by (repeat first | with_reducible assumption | with_reducible exact Below.refl _ _ | (with_reducible refine Below.alloc ?_ ?side _; case side => (first | omega | (with_reducible exact Below.size (by assumption)) | (simp; done) | (simp; omega))) | (with_reducible refine Below.setCell ?_ ?side _; case side => (first | omega | (with_reducible exact Below.size (by assumption)) | (simp; done) | (simp; omega))) | with_reducible refine Below.drew ?_ | with_reducible refine below_drewN ?_ _ | (with_reducible refine below_step (by assumption) ?side ?_; case side => (first | omega | (with_reducible exact Below.size (by assumption)) | (simp; done) | (simp; omega)))))); (case sl => exact sl_new encL_len (by first | rfl | simp) rfl rfl); (case sz => simp only [World.size_alloc]; omega); (rintro v8 w8 ho8 hg8 ha8); (obtain ⟨A8, d8, rfl, -, -⟩ := SlAt.of_own (d := (⟨0, 0, ⟨0, 0⟩, ⟨0, 0⟩⟩ : Ln)) encL_len ho8 (by simp)); (have KB8 := Lib.hid ((KB.out.alloc _).grown hg8 (fun e => hvb _ e.symm rfl))); (have HO8 := Lib.hid ho8); (have BT8 : Hid (But3 (w2.heap.size + 1) (w2.heap.size + 1) (w2.heap.size + 1) V w8) := Lib.hid (BT.out.low (Below.grown ((Below.refl _ _).alloc zb _) hg8 (by simp only [World.size_alloc]; omega) (own_ge HO.out)))); (have kb8 := KB8.out.cell); (have fb8 := KB8.out.frozen); (have lb8 := KB8.out.lt); (clear ho8 hg8 ha8)))
        have KB9 : Hid (Blk (w8.setCell ⟨(w2.heap.size + 1), 1, none⟩ (.slice A8 ((lgL ds k).length + 1) d8)) (w2.heap.size + 1) 48 #[.slice (some ⟨w2.heap.size, 0, none⟩) 1 1, .slice A8 ((lgL ds k).length + 1) d8, .int .i64 0]) := Lib.hid (by have h := KB8.out.set_ 1 (.slice A8 ((lgL ds k).length + 1) d8); simpa using h)
        have HO9 : Hid ((w8.setCell ⟨(w2.heap.size + 1), 1, none⟩ (.slice A8 ((lgL ds k).length + 1) d8)).ownsRow V.heap.size 52 6 (.slice A8 ((lgL ds k).length + 1) d8) ((lgL ds k).length + 1) ((lgL ds k ++ [lgW]).flatMap encL)) := Lib.hid (own_set HO8.out (fun q hq => by have := (HO8.out.lt q hq).1; show q ≠ (w2.heap.size + 1); omega))
        have BT9 : Hid (But3 (w2.heap.size + 1) (w2.heap.size + 1) (w2.heap.size + 1) V (w8.setCell ⟨(w2.heap.size + 1), 1, none⟩ (.slice A8 ((lgL ds k).length + 1) d8))) := Lib.hid (BT8.out.trans (.set (p := ⟨(w2.heap.size + 1), 1, none⟩) (.inl rfl) _))
        go_roundw
        case rel => exact ⟨k + 1, .slice A8 ((lgL ds k).length + 1) d8, by omega, by go_num, KB9, by rw [HLS.out, List.length_append]; exact HO9, BT9⟩
        case measure => simp [intOf]; omega
    · obtain rfl : k = n := by omega
      have hqB : decide (((k : Nat) : Int) < k) = false := by simp
      by_cases h8 : (8 : Int) < ((lgL ds k).length : Nat)
      · have hB8 : decide ((8 : Int) < ((lgL ds k).length : Nat)) = true := by simpa using h8
        clear hsl
        rw [hv] at kb
        subst hv
        go_wp2_with fail
        refine (hwk.out _).mono ?_
        rintro e w99 ⟨rfl, hb99⟩
        go_wp2
        go_ret
        exact ⟨rfl, (hbw).trans (hb99.mono (hbw).size)⟩
      have hB8 : decide ((8 : Int) < ((lgL ds k).length : Nat)) = false := by simpa using h8
      have hlg := Lg.of (ds := ds) (k := k) (by omega)
      have HSL := Lib.hid (lns_iff.2 hsl)
      have HLE := Lib.hid (fun A1 A2 d1 d2 W h h' => Length2_c A1 A2 k d1 ns d2 wrg ds ss W h1 h2 HCK.out h h')
      subst hv
      obtain ⟨T, hT⟩ : ∃ t, ln2 ds k = t := ⟨_, rfl⟩
      rw [hT] at hlg HLE hT0 hT12
      obtain ⟨L, hL⟩ : ∃ t, lgL ds k = t := ⟨_, rfl⟩
      rw [hL] at hlg HSL kb hB8 h8 HO KB
      obtain ⟨nl, hnl⟩ : ∃ t, L.length = t := ⟨_, rfl⟩
      rw [hnl] at hlg HSL kb hB8 h8 HO KB
      have HC := Lib.hid (fun A B c d W h h' => led_calls hlg ⟨hT0, hT12⟩ A B c d W h h')
      have HLG := Lib.hid hlg
      have HLEN := Lib.hid hnl
      have KP : Hid (Blk wr w2.heap.size 29 #[.int .i64 0, .int .i64 12]) := Lib.hid ((BT.out.same _ (by omega) (by omega) (by omega) (by omega)).trans K0.out)
      have HTT := Lib.hid (And.intro hT0 hT12)
      have t1 : decide (T < 0) = false := by simpa using hT0
      have t2 : decide ((12 : Int) < T) = false := by simpa using hT12
      have t3 : (T == T) = true := by simp
      have t4 : IntKind.i64.wrap (T + 1) = T + 1 := IntWalk.i64_in _ (by omega)
      have CC := Lib.hid cc
      clear hsl hT hL hnl hlg hT0 hT12 h8 hvb hlen cc
      have cc := CC.out
      go_wp2_with fail
      refine (Copy2_c A As k c ns cs wrg ds ss wr h1 h2 (HDI.out.later hbw) (HSI.out.later hbw)).mono ?_
      rintro e u1 ⟨A1, d1, A2, d2, rfl, hO, hu1⟩
      obtain ⟨o1, o2⟩ := hO.at_ HDI.out.1 HSI.out.1
      have HL1 := Lib.hid (HLE.out A1 A2 d1 d2 u1 o1 o2)
      have B1 := Lib.hid hu1
      clear hu1 hO o1 o2 cc kb fb lb HLE
      go_wp2_with fail
      refine HL1.out.mono ?_
      rintro e u2 ⟨rfl, hu2⟩
      have B2 : Hid (Below wr.heap.size wr u2) := Lib.hid (B1.out.trans (hu2.mono B1.out.size))
      have kb := (KB.out.below B2.out KB.out.lt).cell
      have lb := (KB.out.below B2.out KB.out.lt).lt
      clear hu2 HL1 B1
      go_wp2_with fail
      refine ((HC.out _ _ _ _ _ (sps_iff.2 (sl_cells encS_len (KP.out.below B2.out KP.out.lt).lt (KP.out.below B2.out KP.out.lt).cell rfl rfl)) (HSL.out.later B2.out)).1).mono ?_
      rintro e u3 ⟨rfl, hu3⟩
      have B3 : Hid (Below wr.heap.size wr u3) := Lib.hid (B2.out.trans (hu3.mono B2.out.size))
      clear hu3 B2 kb lb
      have kb := (KB.out.below B3.out KB.out.lt).cell
      have lb := (KB.out.below B3.out KB.out.lt).lt
      go_wp2_with fail
      refine ((HC.out _ _ _ _ _ (sps_iff.2 (sl_cells encS_len (KP.out.below B3.out KP.out.lt).lt (KP.out.below B3.out KP.out.lt).cell rfl rfl)) (HSL.out.later B3.out)).2).mono ?_
      rintro e u4 ⟨rfl, hu4⟩
      have B4 : Hid (Below wr.heap.size wr u4) := Lib.hid (B3.out.trans (hu4.mono B3.out.size))
      clear hu4 B3 kb lb HC
      go_upto_region 18 with (fail)
      go_name_world R hR
      have B5 : Hid (Below wr.heap.size wr R) := Lib.hid (B4.out.trans ((al1 hR).1.mono B4.out.size))
      have r0 := (al1_0 hR).2.1
      have lr := (al1_0 hR).1
      have KB5 := Lib.hid (KB.out.below B5.out KB.out.lt)
      have KP5 := Lib.hid (KP.out.below B5.out KP.out.lt)
      have kb := KB5.out.cell
      have lb := KB5.out.lt
      have kp := KP5.out.cell
      have fp := KP5.out.frozen
      have lp := KP5.out.lt
      clear hR B4
      go_upto_region 21 with (fail)
      go_name_world Z hZ
      have KZ0 : Hid (Blk Z w2.heap.size 29 #[.int .i64 (T + 1), .int .i64 (T + 1)]) := Lib.hid (by
        rw [← hZ]
        have h := (KP5.out.set_ 0 (.int .i64 (T + 1))).set_ 1 (.int .i64 (T + 1))
        simpa using h)
      have KZ1 : Hid (Blk Z (w2.heap.size + 1) 48 #[.slice (some ⟨w2.heap.size, 0, none⟩) 1 1, .slice A7 nl d7, .int .i64 0]) := Lib.hid (by
        rw [← hZ]
        exact (KB5.out.far (p := ⟨w2.heap.size, 0, none⟩) (by show w2.heap.size + 1 ≠ w2.heap.size; omega) _).far (p := ⟨w2.heap.size, 1, none⟩) (by show w2.heap.size + 1 ≠ w2.heap.size; omega) _)
      have hoz := own_below HO.out B5.out
      have hoZ : Z.ownsRow V.heap.size 52 6 (.slice A7 nl d7) nl (L.flatMap encL) := by
        rw [← hZ]
        exact own_set (own_set hoz (fun q hq => by have := (hoz.lt q hq).1; show q ≠ w2.heap.size; omega)) (fun q hq => by have := (hoz.lt q hq).1; show q ≠ w2.heap.size; omega)
      obtain ⟨A9, d9, e9, -, hs9⟩ := SlAt.of_own (d := (⟨0, 0, ⟨0, 0⟩, ⟨0, 0⟩⟩ : Ln)) encL_len hoZ HLEN.out
      cases e9
      have HS9 := Lib.hid (lns_iff.2 hs9)
      have BZ : Below w.heap.size w Z := by
        rw [← hZ]
        exact ((hbw.trans (B5.out.mono hbw.size)).setCell (p := ⟨w2.heap.size, 0, none⟩) b2.size _).setCell (p := ⟨w2.heap.size, 1, none⟩) b2.size _
      have HZP := Lib.hid (sps_iff.2 (sl_cells encS_len KZ0.out.lt KZ0.out.cell rfl rfl) : SpsAt Z (some ⟨w2.heap.size, 0, none⟩) 1 [⟨T + 1, T + 1⟩])
      clear hZ hoz hoZ hs9 kb lb kp fp lp KB5 KP5 B5 r0 lr
      have kb := KZ1.out.cell
      have lb := KZ1.out.lt
      by_cases hz : nl = 0
      · subst hz
        have HN := Lib.hid (led_none HLG.out HTT.out _ _ 1 d7 Z HZP.out HS9.out)
        have hz0 : ((0 : Nat) : Int) = 0 := rfl
        go_wp2_with fail
        refine HN.out.mono ?_
        rintro e u5 ⟨rfl, hu5⟩
        have kb5 := (KZ1.out.below hu5 KZ1.out.lt).cell
        have lb5 := (KZ1.out.below hu5 KZ1.out.lt).lt
        have B6 : Below w.heap.size w u5 := BZ.trans (hu5.mono BZ.size)
        clear hu5 kb lb
        go_wp2_with fail
        refine (hwk.out _).mono ?_
        rintro e w99 ⟨rfl, hb99⟩
        go_wp2
        go_ret
        exact ⟨rfl, (B6).trans (hb99.mono (B6).size)⟩
      · have HN := Lib.hid (led_more HLG.out HTT.out (by omega) _ _ 1 d7 Z HZP.out HS9.out)
        have hz0 : ((nl : Int) == 0) = false := by rw [beq_eq_false_iff_ne]; omega
        clear hz
        go_wp2_with fail
        refine HN.out.mono ?_
        rintro e u5 ⟨rfl, hu5⟩
        have kb5 := (KZ1.out.below hu5 KZ1.out.lt).cell
        have lb5 := (KZ1.out.below hu5 KZ1.out.lt).lt
        have B6 : Below w.heap.size w u5 := BZ.trans (hu5.mono BZ.size)
        clear hu5 kb lb
        go_wp2_with fail
        refine (hwk.out _).mono ?_
        rintro e w99 ⟨rfl, hb99⟩
        go_wp2
        go_ret
        exact ⟨rfl, (B6).trans (hb99.mono (B6).size)⟩

end Go.Proofs.Ytdhlnlmhdacblaa
