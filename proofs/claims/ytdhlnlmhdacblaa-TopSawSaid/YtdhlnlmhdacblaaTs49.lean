/- TopSaw: the whole law. -/
import Derived.Handy
import Derived.Deep.DeepCutAuto
import Derived.Test.YtdhlnlmhdacblaaTs46
import Derived.Test.YtdhlnlmhdacblaaTs48
namespace Go.Proofs.Ytdhlnlmhdacblaa
open Go.RowKit
open Go.Sort (grow)
set_option linter.unusedVariables false
set_option linter.unusedSimpArgs false

section
variable {bs : List Br} {ps : List Pc} {kf wr : Int}
theorem saw_bounds (h : ckS bs ps kf wr = true) (hne : trL bs ps kf wr ≠ []) {lo : Nat} (hlo : leastP bs ps kf wr = (lo : Int)) :
    0 ≤ kf * ((ps.length : Int) - (cutV bs ps kf wr ps.length [] lo : Nat)) ∧ kf * ((ps.length : Int) - (cutV bs ps kf wr ps.length [] lo : Nat)) ≤ kf * ((ps.length : Int) - lo) ∧ 0 ≤ brS bs - pcS ps - kf * ((ps.length : Int) - lo) := by
  have hk := (ckS_vals h).2.2.1
  obtain ⟨h1, hm⟩ : (∃ l ∈ trL bs ps kf wr, usL bs.length l = lo) ∧ ∀ l ∈ trL bs ps kf wr, lo ≤ usL bs.length l := by
    rcases least_ok h with ⟨e, -⟩ | ⟨l, hl, e, hm⟩
    · exact absurd e hne
    · have : usL bs.length l = lo := by rw [e] at hlo; omega
      exact ⟨⟨l, hl, this⟩, fun m hm' => by rw [← this]; exact hm m hm'⟩
  obtain ⟨b1, b2⟩ := cut_best h h1
  obtain ⟨best, hb⟩ : ∃ b, cutV bs ps kf wr ps.length [] lo = b := ⟨_, rfl⟩
  rw [hb] at b1 b2 ⊢
  have key : ∀ l ∈ trL bs ps kf wr, kfC bs.length kf l = kf * ((ps.length : Int) - (usL bs.length l : Nat)) ∧ rsT bs ps kf l = brS bs - pcS ps - kfC bs.length kf l := fun l hl => by
    obtain ⟨⟨k1, k2⟩, -⟩ := trL_mem.1 hl
    exact ⟨by rw [kfC_eq k2, k1], rsT_eq k1 k2⟩
  obtain ⟨l, hl, e1⟩ := h1
  obtain ⟨m, hm', e2⟩ := b2
  have kl := key l hl
  have km := key m hm'
  rw [e1] at kl
  rw [e2] at km
  have c1 : 0 ≤ rsT bs ps kf l := (rsS_bd (bs := bs) (ps := ps) (kf := kf) (l := l) (nb := bs.length) (fun b hb => rs_bd h hl hb) bs.length (Nat.le_refl _)).1
  have c2 : 0 ≤ kfC bs.length kf m := (kfS_bd (kf := kf) (l := m) (n := m.length) hk (Nat.le_refl _) bs.length).1
  have c3 : lo ≤ best := by have := b1 l hl; omega
  have c4 : kf * ((ps.length : Int) - (best : Nat)) ≤ kf * ((ps.length : Int) - lo) := Int.mul_le_mul_of_nonneg_left (by omega) hk.1
  refine ⟨by rw [← km.1]; exact c2, c4, ?_⟩
  rw [kl.2, kl.1] at c1
  exact c1
end
section
variable (Ab Ap : Option Addr) (nb cb np cp : Nat) (kf wrg : Int) (bs : List Br) (ms : List Pm) (ps : List Pc) (w : World)
/-- Sawn answers with numbers within their bounds -/
theorem saw_one (h1 : nb ≤ 40) (h2 : np ≤ 40) (h3 : ∀ k, k < np → (pcAt ps k).hs.length ≤ 40) (hbl : bs.length = nb) (hpl : ps.length = np) :
    ∃ rl rh cl ch : Int, (∀ (A1 A2 : Option Addr) (d1 d2 : Nat) (ms' : List Pm) (V : World), BrsAt V A1 nb bs → PcsAt V A2 np ms' ps → Calls Try.prog 8 #[.agg #[.slice A1 nb d1, .int .i64 kf, .slice A2 np d2, .int .i64 wrg]] V fun e V' => e = .returned (.tuple #[.agg #[.int .i64 rl, .int .i64 rh], .agg #[.int .i64 cl, .int .i64 ch], .int .i64 (askE bs ps kf wrg true)]) ∧ Below V.heap.size V V') ∧
      (askE bs ps kf wrg true = 0 → rl + ch = brS bs - pcS ps ∧ rh + cl = brS bs - pcS ps ∧ 0 ≤ cl ∧ cl ≤ ch ∧ 0 ≤ rl) := by
  by_cases hz : askE bs ps kf wrg true = 0
  · obtain ⟨-, hck, ht, hne⟩ := trs_of hz
    obtain ⟨lo, hlo⟩ : ∃ lo : Nat, leastP bs ps kf wrg = lo := by
      rcases least_ok hck with ⟨e, -⟩ | ⟨l, -, e, -⟩
      · exact absurd e hne
      · exact ⟨_, e⟩
    have hbd := saw_bounds hck hne hlo
    rw [hpl] at hbd
    obtain ⟨cl, e1⟩ : ∃ c, c = kf * ((np : Int) - (cutV bs ps kf wrg np [] lo : Nat)) := ⟨_, rfl⟩
    obtain ⟨ch, e2⟩ : ∃ c, c = kf * ((np : Int) - lo) := ⟨_, rfl⟩
    rw [← e1, ← e2] at hbd
    refine ⟨brS bs - pcS ps - ch, brS bs - pcS ps - cl, cl, ch, fun A1 A2 d1 d2 ms' V hB hP => ?_, fun _ => ⟨by omega, by omega, by omega, by omega, by omega⟩⟩
    have h := sawnO_c A1 A2 nb d1 np d2 kf wrg bs ms' ps V lo h1 h2 h3 hB hP hz hlo cl ch _ _ e1 e2 rfl rfl
    rw [hz]
    exact h
  · exact ⟨0, 0, 0, 0, fun A1 A2 d1 d2 ms' V hB hP => sawnE_c A1 A2 nb d1 np d2 kf wrg bs ms' ps V h1 h2 h3 hB hP hz, fun h => absurd h hz⟩
end
section
variable {ca we cl ch rl rh : Int}
theorem saw_calls (h1 : 0 ≤ cl) (h2 : cl ≤ ch) (h3 : rl + ch = ca - we) (h4 : rh + cl = ca - we) (h5 : 0 ≤ rl) (h6 : 0 ≤ we) (h7 : ca ≤ 999) (A B : Option Addr) (c d : Nat) (W : World) (HP : SpsAt W A 1 (sawPl rl rh)) (HL : LnsAt W B 2 (sawLs ca we cl ch)) :
    (Calls Try.prog 16 #[.agg #[.slice A 1 c, .slice B 2 d, .int .i64 0]] W fun e w' => e = .returned (.tuple #[.int .i64 0, .int .i64 0]) ∧ Below W.heap.size W w') ∧
    (Calls Try.prog 17 #[.agg #[.slice A 1 c, .slice B 2 d, .int .i64 0], .int .i64 0] W fun e w' => e = .returned (.tuple #[.agg #[.int .i64 rl, .int .i64 rh], .int .i64 0]) ∧ Below W.heap.size W w') ∧
    (Calls Try.prog 20 #[.agg #[.slice A 1 c, .slice B 2 d, .int .i64 0]] W fun e w' => e = .returned (.tuple #[.agg #[.int .i64 cl, .int .i64 ch], .int .i64 0]) ∧ Below W.heap.size W w') := by
  obtain ⟨a1, a2, a3, a4⟩ := saw_led h1 h2 h3 h4 h5 h6 h7
  have k1 := fewest_c_q11 A B 1 c 2 d 0 (sawPl rl rh) (sawLs ca we cl ch) W (by omega) (by omega) HP HL
  have k2 := Stock_c A B 1 c 2 d 0 0 (sawPl rl rh) (sawLs ca we cl ch) W (by omega) (by omega) HP HL
  have k3 := Lost_c A B 1 c 2 d 0 (sawPl rl rh) (sawLs ca we cl ch) W (by omega) (by omega) HP HL
  rw [a2] at k1
  rw [show isNo 0 1 = true by decide, a1, show 2 * 2 + Int.toNat 0 = 4 by decide, a3] at k2
  rw [a1, show 2 * 2 + 1 = 5 from rfl, a4] at k3
  exact ⟨k1, k2, k3⟩
end
set_option maxRecDepth 100000 in
set_option maxHeartbeats 6400000 in
theorem TopSaw_law_c (Ab Ap : Option Addr) (nb cb np cp : Nat) (kf wrg : Int) (bs : List Br) (ms : List Pm) (ps : List Pc) (w : World) (HB : BrsAt w Ab nb bs) (HP : PcsAt w Ap np ms ps) :
    Calls Try.prog 5 #[.agg #[.slice Ab nb cb, .int .i64 kf, .slice Ap np cp, .int .i64 wrg]] w fun e w' => e = .returned (.bool true) ∧ Below w.heap.size w w' := by
  have hwk := Lib.hid weighed_c
  have hfar : ∀ Z, Below w.heap.size w Z → Calls Try.prog 6 #[.agg #[.slice Ab nb cb, .int .i64 kf, .slice Ap np cp, .int .i64 wrg]] Z fun e Z' => e = .returned (.bool (farB bs ps kf wrg nb np)) ∧ Below Z.heap.size Z Z' := fun Z hZ => Far_c Ab Ap nb cb np cp kf wrg bs ms ps Z (HB.later hZ) (HP.later hZ)
  cases er : farB bs ps kf wrg nb np
  case true =>
    rw [er] at hfar
    replace hfar := Lib.hid hfar
    clear er HB HP
    go_enter Try.func5, Try.ntmps5
    go_wp2_with fail
    obtain ⟨X, hX⟩ : ∃ X, w.alloc (.cells #[.slice Ab nb cb, .int .i64 kf, .slice Ap np cp, .int .i64 wrg] 25) = X := ⟨_, rfl⟩
    rw [hX]
    have BX : Below w.heap.size w X := (al1 hX).1
    have zX : X.heap.size = w.heap.size + 1 := (al1 hX).2
    have P0 := Lib.hid (al1_0 hX).2.1
    have zw : w.heap.size ≤ X.heap.size := by omega
    have n0 : w.heap.size < X.heap.size := by omega
    clear hX
    refine (hfar.out X BX).mono ?_
    rintro e w1 ⟨rfl, b1⟩
    have c1_0 := fun j => (b1.cell (p := ⟨w.heap.size, j, none⟩) n0).trans (P0.out j)
    have z1 := b1.size
    go_wp2_with fail
    refine (hwk.out _).mono ?_
    rintro e w99 ⟨rfl, hb99⟩
    go_wp2
    go_ret
    exact ⟨rfl, BX.trans (Below.mono (b1.trans (hb99.mono z1)) zw)⟩
  obtain ⟨h1, h2, h3, hsm⟩ := farB_no er
  rw [er] at hfar
  replace hfar := Lib.hid hfar
  have hrc : ∀ Z, Below w.heap.size w Z → Calls Try.prog 18 #[.agg #[.slice Ab nb cb, .int .i64 kf, .slice Ap np cp, .int .i64 wrg]] Z fun e Z' => e = .returned (.int .i64 (erS (ckS bs ps kf wrg))) ∧ Below Z.heap.size Z Z' := fun Z hZ => refCheck_c Ab Ap nb cb np cp kf wrg bs ms ps Z h1 h2 h3 (HB.later hZ) (HP.later hZ)
  cases ek : ckS bs ps kf wrg
  case false =>
    rw [ek, show erS false = 10 from rfl] at hrc
    replace hrc := Lib.hid hrc
    clear er ek HB HP h3 hsm
    go_enter Try.func5, Try.ntmps5
    go_wp2_with fail
    obtain ⟨X, hX⟩ : ∃ X, w.alloc (.cells #[.slice Ab nb cb, .int .i64 kf, .slice Ap np cp, .int .i64 wrg] 25) = X := ⟨_, rfl⟩
    rw [hX]
    have BX : Below w.heap.size w X := (al1 hX).1
    have zX : X.heap.size = w.heap.size + 1 := (al1 hX).2
    have P0 := Lib.hid (al1_0 hX).2.1
    have zw : w.heap.size ≤ X.heap.size := by omega
    have n0 : w.heap.size < X.heap.size := by omega
    clear hX
    refine (hfar.out X BX).mono ?_
    rintro e w1 ⟨rfl, b1⟩
    have c1_0 := fun j => (b1.cell (p := ⟨w.heap.size, j, none⟩) n0).trans (P0.out j)
    have z1 := b1.size
    go_wp2_with fail
    refine (hrc.out w1 (BX.trans (b1.mono zw))).mono ?_
    rintro e w2 ⟨rfl, hb2⟩
    have b2 : Below X.heap.size X w2 := b1.trans (hb2.mono z1)
    clear hb2 b1 c1_0
    have c2_0 := fun j => (b2.cell (p := ⟨w.heap.size, j, none⟩) n0).trans (P0.out j)
    have z2 := b2.size
    go_wp2_with fail
    refine (hwk.out _).mono ?_
    rintro e w99 ⟨rfl, hb99⟩
    go_wp2
    go_ret
    exact ⟨rfl, BX.trans (Below.mono (b2.trans (hb99.mono z2)) zw)⟩
  rw [ek, show erS true = 0 from rfl] at hrc
  replace hrc := Lib.hid hrc
  obtain ⟨rl, rh, cl, ch, hs1, hs3⟩ := saw_one nb np kf wrg bs ps h1 h2 h3 HB.1 HP.pl
  have htr := Lib.hid (fun V (hV : Below w.heap.size w V) => refTruths_c Ab Ap nb cb np cp kf wrg bs ms ps V h1 h2 h3 hsm (HB.later hV) (HP.later hV))
  have HBI := Lib.hid HB
  have HPI := Lib.hid HP
  have H3 := Lib.hid h3
  obtain ⟨v1, v2, v3, v4, v5, v6⟩ := ckS_vals ek
  rw [HB.1] at v5
  rw [HP.pl] at v6
  have HV5 := Lib.hid (fun k hk => (v5 k hk).2)
  have HV6 := Lib.hid (fun k hk => (v6 k hk).1)
  have BT := Lib.hid (brT_le (bs := bs) (nb := nb) HV5.out)
  have PT := Lib.hid (pcT_le (ps := ps) (np := np) HV6.out)
  obtain ⟨z, hz⟩ : ∃ z, askE bs ps kf wrg true = z := ⟨_, rfl⟩
  rw [hz] at hs1 hs3 htr
  replace hs1 := Lib.hid hs1
  replace hs3 := Lib.hid hs3
  have BA := Lib.hid (brT_all (bs := bs))
  have PA := Lib.hid (pcT_all (ps := ps))
  rw [HB.1] at BA
  rw [HP.pl] at PA
  have k4 : (z == z) = true := by simp
  clear er HB HP h3 hsm ek hz v1 v2 v3 v4 v5 v6
  go_enter Try.func5, Try.ntmps5
  go_wp2_with fail
  obtain ⟨X, hX⟩ : ∃ X, w.alloc (.cells #[.slice Ab nb cb, .int .i64 kf, .slice Ap np cp, .int .i64 wrg] 25) = X := ⟨_, rfl⟩
  rw [hX]
  have BX : Below w.heap.size w X := (al1 hX).1
  have zX : X.heap.size = w.heap.size + 1 := (al1 hX).2
  have P0 := Lib.hid (al1_0 hX).2.1
  have zw : w.heap.size ≤ X.heap.size := by omega
  have n0 : w.heap.size < X.heap.size := by omega
  clear hX
  refine (hfar.out X BX).mono ?_
  rintro e w1 ⟨rfl, b1⟩
  have c1_0 := fun j => (b1.cell (p := ⟨w.heap.size, j, none⟩) n0).trans (P0.out j)
  have z1 := b1.size
  go_wp2_with fail
  refine (hrc.out w1 (BX.trans (b1.mono zw))).mono ?_
  rintro e w1b ⟨rfl, hb1b⟩
  have b1b : Below X.heap.size X w1b := b1.trans (hb1b.mono z1)
  clear hb1b b1 c1_0
  have c1b_0 := fun j => (b1b.cell (p := ⟨w.heap.size, j, none⟩) n0).trans (P0.out j)
  have z1b := b1b.size
  go_wp2_with fail
  refine (Copy_c Ab Ap nb cb np cp kf wrg bs ms ps w1b h1 h2 H3.out (HBI.out.later (BX.trans (b1b.mono zw))) (HPI.out.later (BX.trans (b1b.mono zw)))).mono ?_
  rintro e w2 ⟨A1, d1, A2, d2, ms', mid, rfl, hO, hb2⟩
  obtain ⟨hB2, hP2⟩ := hO.st
  have HS1 := Lib.hid (hs1.out A1 A2 d1 d2 ms' w2 hB2 hP2)
  have b2 : Below X.heap.size X w2 := b1b.trans (hb2.mono z1b)
  clear hb2 hO c1b_0 b1b hB2 hP2 hs1
  have c2_0 := fun j => (b2.cell (p := ⟨w.heap.size, j, none⟩) n0).trans (P0.out j)
  have z2 := b2.size
  go_wp2_with fail
  refine HS1.out.mono ?_
  rintro e w3 ⟨rfl, hb3⟩
  have b3 : Below X.heap.size X w3 := b2.trans (hb3.mono z2)
  clear hb3 b2 c2_0 HS1
  have c3_0 := fun j => (b3.cell (p := ⟨w.heap.size, j, none⟩) n0).trans (P0.out j)
  have z3 := b3.size
  go_upto_region 4 with (fail)
  go_name_world Y hY
  have KY1 : Hid (Blk Y w3.heap.size 29 #[.int .i64 rl, .int .i64 rh]) := Lib.hid (by rw [← hY]; exact (Blk.new w3 29 #[.int .i64 rl, .int .i64 rh]).alloc _)
  have KY2 : Hid (Blk Y (w3.heap.size + 1) 29 #[.int .i64 cl, .int .i64 ch]) := Lib.hid (by
    rw [← hY]
    have h0 := Blk.new (w3.alloc (.cells #[.int .i64 rl, .int .i64 rh] 29)) 29 #[.int .i64 cl, .int .i64 ch]
    simp only [World.size_alloc] at h0
    exact h0)
  have bY : Below w3.heap.size w3 Y := (al2 hY).1
  have b4 : Below X.heap.size X Y := b3.trans (bY.mono z3)
  clear hY bY b3 c3_0
  have c4_0 := fun j => (b4.cell (p := ⟨w.heap.size, j, none⟩) n0).trans (P0.out j)
  have z4 := b4.size
  go_wp2_with fail
  refine (htr.out Y (BX.trans (b4.mono zw))).mono ?_
  rintro e V ⟨rfl, hbV⟩
  have b6 : Below X.heap.size X V := b4.trans (hbV.mono z4)
  have KV1 := Lib.hid (KY1.out.below hbV KY1.out.lt)
  have KV2 := Lib.hid (KY2.out.below hbV KY2.out.lt)
  clear hbV b4 c4_0 KY1 KY2
  have c6_0 := fun j => (b6.cell (p := ⟨w.heap.size, j, none⟩) n0).trans (P0.out j)
  have z6 := b6.size
  have CV := Lib.hid c6_0
  have n0v : w.heap.size < V.heap.size := by omega
  go_upto_region 7 with (fail)
  go_wp2_with fail
  clear c6_0
  go_loopw [6, 8] (fun s i (wr : World) => ∃ k : Nat, k ≤ nb ∧ s = .int .i64 (brT bs k) ∧ i = .int .i64 k ∧ wr = V) (fun _ i _ => nb - (intOf i).toNat)
  case atStart => exact ⟨0, by omega, rfl, rfl, rfl⟩
  case round =>
    obtain ⟨k, hk, rfl, rfl, hws⟩ := hrel
    subst wr
    have c6 := CV.out
    by_cases hkn : k < nb
    · have hqB : decide ((k : Int) < nb) = true := by simp; omega
      obtain ⟨bb, bo, hAbe, hbb, y0, y1⟩ := (HBI.out.later (BX.trans (b6.mono zw))).get hkn
      subst hAbe
      have hbt := BT.out k hk
      have hbl := HV5.out k hkn
      have hsc := brT_succ (bs := bs) (k := k)
      obtain ⟨sm, hsm⟩ : ∃ s, brT bs k = s := ⟨_, rfl⟩
      obtain ⟨sm', hsm'⟩ : ∃ s, brT bs (k + 1) = s := ⟨_, rfl⟩
      obtain ⟨lg, hlg⟩ : ∃ s, (brAt bs k).long = s := ⟨_, rfl⟩
      rw [hsm, hsm', hlg] at hsc
      rw [hsm] at hbt ⊢
      rw [hlg] at y1 hbl
      have hw : IntKind.i64.wrap (sm + lg) = sm' := by rw [hsc]; exact IntWalk.i64_in _ (by omega)
      have HS := Lib.hid hsm'
      clear hsc hsm hsm' hlg
      go_wp2_with fail
      go_roundw
      case rel => exact ⟨k + 1, by omega, by rw [HS.out], by go_num, trivial⟩
      case measure => simp [intOf]; omega
    · obtain rfl : nb = k := by omega
      have hqB : decide (((nb : Nat) : Int) < nb) = false := by simp
      have hbs := BT.out nb (Nat.le_refl _)
      rw [BA.out] at hbs ⊢
      go_upto_region 11 with (fail)
      clear c6
      obtain ⟨S0, hS0⟩ : ∃ s, brS bs = s := ⟨_, rfl⟩
      rw [hS0] at hbs hs3 ⊢
      clear hS0 BA
      go_wp2_with fail
      go_loopw [7, 9] (fun s i (wr : World) => ∃ k : Nat, k ≤ np ∧ s = .int .i64 (pcT ps k) ∧ i = .int .i64 k ∧ wr = V) (fun _ i _ => np - (intOf i).toNat)
      case atStart => exact ⟨0, by omega, rfl, rfl, rfl⟩
      case round =>
        obtain ⟨k, hk, rfl, rfl, hws⟩ := hrel
        subst wr
        have c6 := CV.out
        by_cases hkn : k < np
        · have hqB : decide ((k : Int) < np) = true := by simp; omega
          obtain ⟨bb, bo, hAbe, hbb, y0, y1, -⟩ := (HPI.out.later (BX.trans (b6.mono zw))).get hkn
          subst hAbe
          have hbt := PT.out k hk
          have hbl := HV6.out k hkn
          have hsc := pcT_succ (ps := ps) (k := k)
          obtain ⟨sm, hsm⟩ : ∃ s, pcT ps k = s := ⟨_, rfl⟩
          obtain ⟨sm', hsm'⟩ : ∃ s, pcT ps (k + 1) = s := ⟨_, rfl⟩
          obtain ⟨lg, hlg⟩ : ∃ s, (pcAt ps k).long = s := ⟨_, rfl⟩
          rw [hsm, hsm', hlg] at hsc
          rw [hsm] at hbt ⊢
          rw [hlg] at y0 hbl
          have hw : IntKind.i64.wrap (sm + lg) = sm' := by rw [hsc]; exact IntWalk.i64_in _ (by omega)
          have HS := Lib.hid hsm'
          clear hsc hsm hsm' hlg
          go_wp2_with fail
          go_roundw
          case rel => exact ⟨k + 1, by omega, by rw [HS.out], by go_num, trivial⟩
          case measure => simp [intOf]; omega
        · obtain rfl : np = k := by omega
          have hqB : decide (((np : Nat) : Int) < np) = false := by simp
          have hps := PT.out np (Nat.le_refl _)
          rw [PA.out] at hps ⊢
          obtain ⟨P0, hP0⟩ : ∃ s, pcS ps = s := ⟨_, rfl⟩
          rw [hP0] at hps hs3 ⊢
          clear hP0 PA hk hkn
          by_cases hz : z = 0
          case neg =>
            have hzB : (z == 0) = false := by rw [beq_eq_false_iff_ne]; exact hz
            go_wp2_with fail
            refine (hwk.out _).mono ?_
            rintro e w99 ⟨rfl, hb99⟩
            go_wp2
            go_ret
            exact ⟨rfl, BX.trans (Below.mono (b6.trans (hb99.mono z6)) zw)⟩
          subst hz
          by_cases h9 : (999 : Int) < S0
          · have hB9 : decide ((999 : Int) < S0) = true := by simpa using h9
            go_wp2_with fail
            refine (hwk.out _).mono ?_
            rintro e w99 ⟨rfl, hb99⟩
            go_wp2
            go_ret
            exact ⟨rfl, BX.trans (Below.mono (b6.trans (hb99.mono z6)) zw)⟩
          have hB9 : decide ((999 : Int) < S0) = false := by simpa using h9
          obtain ⟨r1, r2, r3, r4, r5⟩ := hs3.out rfl
          have HC := Lib.hid (fun A B c d W h h' => saw_calls (ca := S0) (we := P0) r3 r4 r1 r2 r5 hps.1 (by omega) A B c d W h h')
          have q1 := KV1.out.cell
          have q2 := KV2.out.cell
          have l1 := KV1.out.lt
          have l2 := KV2.out.lt
          clear hs3 r1 r2 r3 r4 r5
          go_upto_region 18 with (fail)
          go_name_world U hU
          have BU : Below V.heap.size V U := (al3 hU).1
          have HPU := Lib.hid (sps_iff.2 (sl_cells encS_len (al3_0 hU).1 (al3_0 hU).2.1 rfl rfl) : SpsAt U (some ⟨V.heap.size, 0, none⟩) 1 (sawPl rl rh))
          have HLU := Lib.hid (lns_iff.2 (sl_cells encL_len (al3_1 hU).1 (al3_1 hU).2.1 rfl rfl) : LnsAt U (some ⟨V.heap.size + 1, 0, none⟩) 2 (sawLs S0 P0 cl ch))
          have QU := Lib.hid (al3_2 hU).2.1
          have lU := (al3_2 hU).1
          have b7 : Below X.heap.size X U := b6.trans (BU.mono z6)
          have KU1 := Lib.hid (KV1.out.below BU KV1.out.lt)
          have KU2 := Lib.hid (KV2.out.below BU KV2.out.lt)
          have qU := QU.out
          clear hU BU q1 q2 l1 l2
          go_wp2_with fail
          refine ((HC.out _ _ _ _ _ HPU.out HLU.out).1).mono ?_
          rintro e u1 ⟨rfl, hu1⟩
          have qu1 := fun j => (hu1.cell (p := ⟨V.heap.size + 1 + 1, j, none⟩) lU).trans (QU.out j)
          have b8 : Below X.heap.size X u1 := b7.trans (hu1.mono b7.size)
          have c1u := Lib.hid hu1
          have lu1 : V.heap.size + 1 + 1 < u1.heap.size := Nat.lt_of_lt_of_le lU hu1.size
          clear hu1 qU
          go_wp2_with fail
          refine ((HC.out _ _ _ _ _ (HPU.out.later c1u.out) (HLU.out.later c1u.out)).2.1).mono ?_
          rintro e u2 ⟨rfl, hu2⟩
          have c2u : Hid (Below U.heap.size U u2) := Lib.hid (c1u.out.trans (hu2.mono c1u.out.size))
          clear hu2 qu1
          go_upto_region 20 with (fail)
          go_name_world T hT
          have c3u : Hid (Below U.heap.size U T) := Lib.hid (c2u.out.trans ((al1 hT).1.mono c2u.out.size))
          have KT : Hid (Blk T u2.heap.size 29 #[.int .i64 rl, .int .i64 rh]) := Lib.hid (by rw [← hT]; exact Blk.new u2 _ _)
          have qT := fun j => (c3u.out.cell (p := ⟨V.heap.size + 1 + 1, j, none⟩) lU).trans (QU.out j)
          have lT : V.heap.size + 1 + 1 < T.heap.size := Nat.lt_of_lt_of_le lU c3u.out.size
          clear hT
          go_wp2_with fail
          refine ((HC.out _ _ _ _ _ (HPU.out.later c3u.out) (HLU.out.later c3u.out)).2.2).mono ?_
          rintro e u4 ⟨rfl, hu4⟩
          have c4u : Hid (Below U.heap.size U u4) := Lib.hid (c3u.out.trans (hu4.mono c3u.out.size))
          have KT4 := Lib.hid (KT.out.below hu4 KT.out.lt)
          clear hu4 qT KT
          go_upto_region 21 with (fail)
          go_name_world R hR
          have c5u : Hid (Below U.heap.size U R) := Lib.hid (c4u.out.trans ((al1 hR).1.mono c4u.out.size))
          have KR : Hid (Blk R u4.heap.size 29 #[.int .i64 cl, .int .i64 ch]) := Lib.hid (by rw [← hR]; exact Blk.new u4 _ _)
          have KT5 := Lib.hid (KT4.out.below (al1 hR).1 KT4.out.lt)
          have t1 := (KU1.out.below c5u.out KU1.out.lt).cell
          have t2 := (KU2.out.below c5u.out KU2.out.lt).cell
          have t3 := KT5.out.cell
          have t4 := KR.out.cell
          have t5 := (KU1.out.below c5u.out KU1.out.lt).lt
          have t6 := (KU2.out.below c5u.out KU2.out.lt).lt
          have t7 := KT5.out.lt
          have t8 := KR.out.lt
          have b9 : Below X.heap.size X R := b7.trans (c5u.out.mono b7.size)
          have z9 := b9.size
          have e1 : (rl == rl) = true := by simp
          have e2 : (rh == rh) = true := by simp
          have e3 : (cl == cl) = true := by simp
          have e4 : (ch == ch) = true := by simp
          clear hR
          go_wp2_with fail
          refine (hwk.out _).mono ?_
          rintro e w99 ⟨rfl, hb99⟩
          go_wp2
          go_ret
          exact ⟨rfl, BX.trans (Below.mono (b9.trans (hb99.mono z9)) zw)⟩

end Go.Proofs.Ytdhlnlmhdacblaa
