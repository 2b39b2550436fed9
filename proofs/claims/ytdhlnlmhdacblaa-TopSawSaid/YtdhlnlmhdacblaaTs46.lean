/- ScrapSawn (layer 11): the whole law; weighed of the statements about the program through its layers: its examples. -/
import Derived.Deep.DeepCutAuto
import Derived.Test.YtdhlnlmhdacblaaTs26
import Derived.Test.YtdhlnlmhdacblaaTs27
import Derived.Test.YtdhlnlmhdacblaaTs43
import Derived.Test.YtdhlnlmhdacblaaTs22
import Derived.Test.YtdhlnlmhdacblaaTs16
import Derived.Test.YtdhlnlmhdacblaaTs24
import Derived.Test.YtdhlnlmhdacblaaTs45
import Derived.Handy
import Derived.Deep.DrawnRows
namespace Go.Proofs.Ytdhlnlmhdacblaa
open Go.RowKit
open Go.Sort (grow)
set_option linter.unusedVariables false
set_option linter.unusedSimpArgs false

section
variable (Ab Ap : Option Addr) (nb cb np cp : Nat) (kf wrg : Int) (bs : List Br) (ms : List Pm) (ps : List Pc) (w : World)
/-- both Sawn answer alike -/
theorem saw_both (h1 : nb ≤ 40) (h2 : np ≤ 40) (h3 : ∀ k, k < np → (pcAt ps k).hs.length ≤ 40) (hsm : ckS bs ps kf wrg = true → nb ≤ 4 ∧ np ≤ 5) (HB : BrsAt w Ab nb bs) (HP : PcsAt w Ap np ms ps) :
    ∃ rl rh cl ch : Int, (∀ (A1 A2 : Option Addr) (d1 d2 : Nat) (ms' : List Pm) (V : World), BrsAt V A1 nb bs → PcsAt V A2 np ms' ps → Calls Try.prog 8 #[.agg #[.slice A1 nb d1, .int .i64 kf, .slice A2 np d2, .int .i64 wrg]] V fun e V' => e = .returned (.tuple #[.agg #[.int .i64 rl, .int .i64 rh], .agg #[.int .i64 cl, .int .i64 ch], .int .i64 (askE bs ps kf wrg true)]) ∧ Below V.heap.size V V') ∧
      (∀ V, Below w.heap.size w V → Calls Try.prog 10 #[.agg #[.slice Ab nb cb, .int .i64 kf, .slice Ap np cp, .int .i64 wrg]] V fun e V' => e = .returned (.tuple #[.agg #[.int .i64 rl, .int .i64 rh], .agg #[.int .i64 cl, .int .i64 ch], .int .i64 (askE bs ps kf wrg true)]) ∧ Below V.heap.size V V') ∧
      (askE bs ps kf wrg true = 0 → rl + ch = brS bs - pcS ps ∧ rh + cl = brS bs - pcS ps) := by
  by_cases hz : askE bs ps kf wrg true = 0
  · obtain ⟨-, hck, ht, hne⟩ := trs_of hz
    have hbl := HB.1
    have hpl := HP.pl
    obtain ⟨lo, hlo⟩ : ∃ lo : Nat, leastP bs ps kf wrg = lo := by
      rcases least_ok hck with ⟨e, -⟩ | ⟨l, -, e, -⟩
      · exact absurd e hne
      · exact ⟨_, e⟩
    obtain ⟨cl, e1⟩ : ∃ c, c = kf * ((np : Int) - (cutV bs ps kf wrg np [] lo : Nat)) := ⟨_, rfl⟩
    obtain ⟨ch, e2⟩ : ∃ c, c = kf * ((np : Int) - lo) := ⟨_, rfl⟩
    refine ⟨brS bs - pcS ps - ch, brS bs - pcS ps - cl, cl, ch, fun A1 A2 d1 d2 ms' V hB hP => ?_, fun V hV => ?_, fun _ => ⟨by omega, by omega⟩⟩
    · have h := sawnO_c A1 A2 nb d1 np d2 kf wrg bs ms' ps V lo h1 h2 h3 hB hP hz hlo cl ch _ _ e1 e2 rfl rfl
      rw [hz]
      exact h
    · refine (refSawnO_c Ab Ap nb cb np cp kf wrg bs ms ps V h1 h2 h3 hsm (HB.later hV) (HP.later hV) hz).mono ?_
      rintro e V' ⟨rl, rh, cl', ch', rfl, hR, hC, hb⟩
      obtain ⟨k1, k2, k3, k4⟩ := sawn_law hck hne hlo hC hR
      rw [hpl, ← e1] at k1
      rw [hpl, ← e2] at k2
      rw [k2] at k3
      rw [k1] at k4
      rw [k1, k2, k3, k4, hz]
      exact ⟨rfl, hb⟩
  · exact ⟨0, 0, 0, 0, fun A1 A2 d1 d2 ms' V hB hP => sawnE_c A1 A2 nb d1 np d2 kf wrg bs ms' ps V h1 h2 h3 hB hP hz, fun V hV => refSawnE_c Ab Ap nb cb np cp kf wrg bs ms ps V h1 h2 h3 hsm (HB.later hV) (HP.later hV) hz, fun h => absurd h hz⟩
end
set_option maxRecDepth 100000 in
set_option maxHeartbeats 6400000 in
theorem Saw_law_c (Ab Ap : Option Addr) (nb cb np cp : Nat) (kf wrg : Int) (bs : List Br) (ms : List Pm) (ps : List Pc) (w : World) (HB : BrsAt w Ab nb bs) (HP : PcsAt w Ap np ms ps) :
    Calls Try.prog 3 #[.agg #[.slice Ab nb cb, .int .i64 kf, .slice Ap np cp, .int .i64 wrg]] w fun e w' => e = .returned (.bool true) ∧ Below w.heap.size w w' := by
  have hwk := Lib.hid works_c_q11
  have hfar : ∀ Z, Below w.heap.size w Z → Calls Try.prog 6 #[.agg #[.slice Ab nb cb, .int .i64 kf, .slice Ap np cp, .int .i64 wrg]] Z fun e Z' => e = .returned (.bool (farB bs ps kf wrg nb np)) ∧ Below Z.heap.size Z Z' := fun Z hZ => Far_c Ab Ap nb cb np cp kf wrg bs ms ps Z (HB.later hZ) (HP.later hZ)
  cases er : farB bs ps kf wrg nb np
  case true =>
    rw [er] at hfar
    replace hfar := Lib.hid hfar
    clear er HB HP
    go_enter Try.func3, Try.ntmps3
    go_wp2_with fail
    obtain ⟨X, hX⟩ : ∃ X, w.alloc (.cells #[.slice Ab nb cb, .int .i64 kf, .slice Ap np cp, .int .i64 wrg] 25) = X := ⟨_, rfl⟩
    rw [hX]
    have BX : Below w.heap.size w X := (al1 hX).1
    have zX : X.heap.size = w.heap.size + 1 := (al1 hX).2
    have P0 := Lib.hid (al1_0 hX).2.1
    have zw : w.heap.size ≤ X.heap.size := by omega
    have n0 : w.heap.size < X.heap.size := by omega
    clear hX
    refine (hfar.out X BX).mono ?_
    rintro e w1 ⟨rfl, b1⟩
    have c1_0 := fun j => (b1.cell (p := ⟨w.heap.size, j, none⟩) n0).trans (P0.out j)
    have z1 := b1.size
    go_wp2_with fail
    refine (hwk.out _).mono ?_
    rintro e w99 ⟨rfl, hb99⟩
    go_wp2
    go_ret
    exact ⟨rfl, BX.trans (Below.mono (b1.trans (hb99.mono z1)) zw)⟩
  obtain ⟨h1, h2, h3, hsm⟩ := farB_no er
  rw [er] at hfar
  replace hfar := Lib.hid hfar
  obtain ⟨rl, rh, cl, ch, hs1, hs2, hs3⟩ := saw_both Ab Ap nb cb np cp kf wrg bs ms ps w h1 h2 h3 hsm HB HP
  have HBI := Lib.hid HB
  have HPI := Lib.hid HP
  have H3 := Lib.hid h3
  have hck : askE bs ps kf wrg true = 0 → ckS bs ps kf wrg = true := fun hz => (trs_of hz).2.1
  have HV : Hid (askE bs ps kf wrg true = 0 → (∀ k, k < nb → 1 ≤ (brAt bs k).long ∧ (brAt bs k).long ≤ 999) ∧ (∀ k, k < np → 1 ≤ (pcAt ps k).long ∧ (pcAt ps k).long ≤ 999)) := Lib.hid fun hz => by
    obtain ⟨v1, v2, v3, v4, v5, v6⟩ := ckS_vals (hck hz)
    rw [HBI.out.1] at v5
    rw [HPI.out.pl] at v6
    exact ⟨fun k hk => (v5 k hk).2, fun k hk => (v6 k hk).1⟩
  obtain ⟨z, hz⟩ : ∃ z, askE bs ps kf wrg true = z := ⟨_, rfl⟩
  rw [hz] at hs1 hs2 hs3 HV
  replace hs1 := Lib.hid hs1
  replace hs2 := Lib.hid hs2
  replace hs3 := Lib.hid hs3
  have BA := Lib.hid (brT_all (bs := bs))
  have PA := Lib.hid (pcT_all (ps := ps))
  rw [HB.1] at BA
  rw [HP.pl] at PA
  have k0 : (rl == rl) = true := by simp
  have k1 : (rh == rh) = true := by simp
  have k2 : (cl == cl) = true := by simp
  have k3 : (ch == ch) = true := by simp
  have k4 : (z == z) = true := by simp
  clear er HB HP h3 hsm hck hz
  go_enter Try.func3, Try.ntmps3
  go_wp2_with fail
  obtain ⟨X, hX⟩ : ∃ X, w.alloc (.cells #[.slice Ab nb cb, .int .i64 kf, .slice Ap np cp, .int .i64 wrg] 25) = X := ⟨_, rfl⟩
  rw [hX]
  have BX : Below w.heap.size w X := (al1 hX).1
  have zX : X.heap.size = w.heap.size + 1 := (al1 hX).2
  have P0 := Lib.hid (al1_0 hX).2.1
  have zw : w.heap.size ≤ X.heap.size := by omega
  have n0 : w.heap.size < X.heap.size := by omega
  clear hX
  refine (hfar.out X BX).mono ?_
  rintro e w1 ⟨rfl, b1⟩
  have c1_0 := fun j => (b1.cell (p := ⟨w.heap.size, j, none⟩) n0).trans (P0.out j)
  have z1 := b1.size
  go_wp2_with fail
  refine (Copy_c Ab Ap nb cb np cp kf wrg bs ms ps w1 h1 h2 H3.out (HBI.out.later (BX.trans (b1.mono zw))) (HPI.out.later (BX.trans (b1.mono zw)))).mono ?_
  rintro e w2 ⟨A1, d1, A2, d2, ms', mid, rfl, hO, hb2⟩
  obtain ⟨hB2, hP2⟩ := hO.st
  have HS1 := Lib.hid (hs1.out A1 A2 d1 d2 ms' w2 hB2 hP2)
  have b2 : Below X.heap.size X w2 := b1.trans (hb2.mono z1)
  clear hb2 hO c1_0 b1 hB2 hP2 hs1
  have c2_0 := fun j => (b2.cell (p := ⟨w.heap.size, j, none⟩) n0).trans (P0.out j)
  have z2 := b2.size
  go_wp2_with fail
  refine HS1.out.mono ?_
  rintro e w3 ⟨rfl, hb3⟩
  have b3 : Below X.heap.size X w3 := b2.trans (hb3.mono z2)
  clear hb3 b2 c2_0 HS1
  have c3_0 := fun j => (b3.cell (p := ⟨w.heap.size, j, none⟩) n0).trans (P0.out j)
  have z3 := b3.size
  go_upto_region 4 with (fail)
  go_name_world Y hY
  have KY1 : Hid (Blk Y w3.heap.size 29 #[.int .i64 rl, .int .i64 rh]) := Lib.hid (by rw [← hY]; exact (Blk.new w3 29 #[.int .i64 rl, .int .i64 rh]).alloc _)
  have KY2 : Hid (Blk Y (w3.heap.size + 1) 29 #[.int .i64 cl, .int .i64 ch]) := Lib.hid (by
    rw [← hY]
    have h0 := Blk.new (w3.alloc (.cells #[.int .i64 rl, .int .i64 rh] 29)) 29 #[.int .i64 cl, .int .i64 ch]
    simp only [World.size_alloc] at h0
    exact h0)
  have bY : Below w3.heap.size w3 Y := (al2 hY).1
  have b4 : Below X.heap.size X Y := b3.trans (bY.mono z3)
  clear hY bY b3 c3_0
  have c4_0 := fun j => (b4.cell (p := ⟨w.heap.size, j, none⟩) n0).trans (P0.out j)
  have z4 := b4.size
  have HS2 := Lib.hid (hs2.out Y (BX.trans (b4.mono zw)))
  clear hs2
  go_wp2_with fail
  refine HS2.out.mono ?_
  rintro e w5 ⟨rfl, hb5⟩
  have b5 : Below X.heap.size X w5 := b4.trans (hb5.mono z4)
  have K51 := Lib.hid (KY1.out.below hb5 KY1.out.lt)
  have K52 := Lib.hid (KY2.out.below hb5 KY2.out.lt)
  clear hb5 b4 c4_0 HS2 KY1 KY2
  have c5_0 := fun j => (b5.cell (p := ⟨w.heap.size, j, none⟩) n0).trans (P0.out j)
  have z5 := b5.size
  go_upto_region 5 with (fail)
  go_name_world V hV
  have KV3 : Hid (Blk V w5.heap.size 29 #[.int .i64 rl, .int .i64 rh]) := Lib.hid (by rw [← hV]; exact (Blk.new w5 29 #[.int .i64 rl, .int .i64 rh]).alloc _)
  have KV4 : Hid (Blk V (w5.heap.size + 1) 29 #[.int .i64 cl, .int .i64 ch]) := Lib.hid (by
    rw [← hV]
    have h0 := Blk.new (w5.alloc (.cells #[.int .i64 rl, .int .i64 rh] 29)) 29 #[.int .i64 cl, .int .i64 ch]
    simp only [World.size_alloc] at h0
    exact h0)
  have bV : Below w5.heap.size w5 V := (al2 hV).1
  have b6 : Below X.heap.size X V := b5.trans (bV.mono z5)
  have KV1 := Lib.hid (K51.out.below bV K51.out.lt)
  have KV2 := Lib.hid (K52.out.below bV K52.out.lt)
  clear hV bV b5 c5_0 K51 K52
  have c6_0 := fun j => (b6.cell (p := ⟨w.heap.size, j, none⟩) n0).trans (P0.out j)
  have z6 := b6.size
  have q1 := KV1.out.cell
  have q2 := KV2.out.cell
  have q3 := KV3.out.cell
  have q4 := KV4.out.cell
  have l1 := KV1.out.lt
  have l2 := KV2.out.lt
  have l3 := KV3.out.lt
  have l4 := KV4.out.lt
  by_cases hz : z = 0
  case neg =>
    have hzB : (z == 0) = false := by rw [beq_eq_false_iff_ne]; exact hz
    clear hz
    go_wp2_with fail
    refine (hwk.out _).mono ?_
    rintro e w99 ⟨rfl, hb99⟩
    go_wp2
    go_ret
    exact ⟨rfl, BX.trans (Below.mono (b6.trans (hb99.mono z6)) zw)⟩
  subst hz
  obtain ⟨V5, V6⟩ := HV.out rfl
  obtain ⟨S1, S2⟩ := hs3.out rfl
  have BT := Lib.hid (brT_le (bs := bs) (nb := nb) V5)
  have PT := Lib.hid (pcT_le (ps := ps) (np := np) V6)
  have HV5 := Lib.hid V5
  have HV6 := Lib.hid V6
  have HS1 := Lib.hid S1
  have HS2 := Lib.hid S2
  have n0v : w.heap.size < V.heap.size := by omega
  have CV := Lib.hid c6_0
  clear HV hs3 V5 V6 S1 S2
  go_upto_region 10 with (fail)
  clear q3 q4 l3 l4 q1 q2 c6_0
  go_wp2_with fail
  go_loopw [9, 10] (fun s i (wr : World) => ∃ k : Nat, k ≤ nb ∧ s = .int .i64 (brT bs k) ∧ i = .int .i64 k ∧ wr = V) (fun _ i _ => nb - (intOf i).toNat)
  case atStart => exact ⟨0, by omega, rfl, rfl, rfl⟩
  case round =>
    obtain ⟨k, hk, rfl, rfl, hws⟩ := hrel
    subst wr
    have c6 := CV.out
    by_cases hkn : k < nb
    · have hqB : decide ((k : Int) < nb) = true := by simp; omega
      obtain ⟨bb, bo, hAbe, hbb, y0, y1⟩ := (HBI.out.later (BX.trans (b6.mono zw))).get hkn
      subst hAbe
      have hbt := BT.out k hk
      have hbl := HV5.out k hkn
      have hsc := brT_succ (bs := bs) (k := k)
      obtain ⟨sm, hsm⟩ : ∃ s, brT bs k = s := ⟨_, rfl⟩
      obtain ⟨sm', hsm'⟩ : ∃ s, brT bs (k + 1) = s := ⟨_, rfl⟩
      obtain ⟨lg, hlg⟩ : ∃ s, (brAt bs k).long = s := ⟨_, rfl⟩
      rw [hsm, hsm', hlg] at hsc
      rw [hsm] at hbt ⊢
      rw [hlg] at y1 hbl
      have hw : IntKind.i64.wrap (sm + lg) = sm' := by rw [hsc]; exact IntWalk.i64_in _ (by omega)
      have HS := Lib.hid hsm'
      clear hsc hsm hsm' hlg
      go_wp2_with fail
      go_roundw
      case rel => exact ⟨k + 1, by omega, by rw [HS.out], by go_num, trivial⟩
      case measure => simp [intOf]; omega
    · obtain rfl : nb = k := by omega
      have hqB : decide (((nb : Nat) : Int) < nb) = false := by simp
      have hbs := BT.out nb (Nat.le_refl _)
      rw [BA.out] at hbs ⊢
      go_upto_region 14 with (fail)
      clear c6
      obtain ⟨S0, hS0⟩ : ∃ s, brS bs = s := ⟨_, rfl⟩
      rw [hS0] at hbs HS1 HS2 ⊢
      clear hS0 BA
      go_wp2_with fail
      go_loopw [9, 11] (fun s i (wr : World) => ∃ k : Nat, k ≤ np ∧ s = .int .i64 (S0 - pcT ps k) ∧ i = .int .i64 k ∧ wr = V) (fun _ i _ => np - (intOf i).toNat)
      case atStart => exact ⟨0, by omega, by simp [pcT], rfl, rfl⟩
      case round =>
        obtain ⟨k, hk, rfl, rfl, hws⟩ := hrel
        subst wr
        have c6 := CV.out
        by_cases hkn : k < np
        · have hqB : decide ((k : Int) < np) = true := by simp; omega
          obtain ⟨bb, bo, hAbe, hbb, y0, y1, -⟩ := (HPI.out.later (BX.trans (b6.mono zw))).get hkn
          subst hAbe
          have hbt := PT.out k hk
          have hbl := (HV6.out k hkn)
          have hsc := pcT_succ (ps := ps) (k := k)
          obtain ⟨sm, hsm⟩ : ∃ s, pcT ps k = s := ⟨_, rfl⟩
          obtain ⟨sm', hsm'⟩ : ∃ s, pcT ps (k + 1) = s := ⟨_, rfl⟩
          obtain ⟨lg, hlg⟩ : ∃ s, (pcAt ps k).long = s := ⟨_, rfl⟩
          rw [hsm, hsm', hlg] at hsc
          rw [hsm] at hbt ⊢
          rw [hlg] at y0 hbl
          obtain ⟨sn, hsn⟩ : ∃ s, S0 - sm = s := ⟨_, rfl⟩
          obtain ⟨sn', hsn'⟩ : ∃ s, S0 - sm' = s := ⟨_, rfl⟩
          rw [hsn]
          have hw : IntKind.i64.wrap (sn - lg) = sn' := by rw [← hsn', IntWalk.i64_in _ (by omega)]; omega
          have HS : Hid (sn' = S0 - pcT ps (k + 1)) := Lib.hid (by rw [← hsn', ← hsm'])
          clear hsc hsm hsm' hlg hsn hsn'
          go_wp2_with fail
          go_roundw
          case rel => exact ⟨k + 1, by omega, by rw [← HS.out], by go_num, trivial⟩
          case measure => simp [intOf]; omega
        · obtain rfl : np = k := by omega
          have hqB : decide (((np : Nat) : Int) < np) = false := by simp
          have hps := PT.out np (Nat.le_refl _)
          rw [PA.out] at hps ⊢
          obtain ⟨LV, hLV⟩ : ∃ s, S0 - pcS ps = s := ⟨_, rfl⟩
          rw [hLV] at HS1 HS2 ⊢
          have hw1 : IntKind.i64.wrap (rl + ch) = LV := by rw [HS1.out]; exact IntWalk.i64_in _ (by omega)
          have hw2 : IntKind.i64.wrap (rh + cl) = LV := by rw [HS2.out]; exact IntWalk.i64_in _ (by omega)
          have hll : (LV == LV) = true := by simp
          have q1 := KV1.out.cell
          have q2 := KV2.out.cell
          have l1 := KV1.out.lt
          have l2 := KV2.out.lt
          clear hLV
          go_wp2_with fail
          refine (hwk.out _).mono ?_
          rintro e w99 ⟨rfl, hb99⟩
          go_wp2
          go_ret
          exact ⟨rfl, BX.trans (Below.mono (b6.trans (hb99.mono z6)) zw)⟩

end Go.Proofs.Ytdhlnlmhdacblaa

namespace Go.Proofs.Ytdhlnlmhdacblaa
open Go.RowKit
open Go.Sort (grow)
set_option linter.unusedVariables false
set_option linter.unusedSimpArgs false

theorem ev_cut : cutV exB exP 5 0 3 [] 2 = 3 := by kernel_rfl
theorem ev_ck2 : ck2 [⟨1, 0, 0, 1, 0⟩] [] 1 0 0 = true := by kernel_rfl
theorem ev_ln2 : ln2 [⟨1, 0, 0, 1, 0⟩] 1 = 1 := by kernel_rfl
set_option maxRecDepth 100000 in
set_option maxHeartbeats 3200000 in
theorem weighed_c (w : World) : Calls Try.prog 13 #[] w fun e w' => e = .returned (.bool true) ∧ Below w.heap.size w w' := by
  have hsaw := Lib.hid (fun (A1 A2 : Option Addr) (ms : List Pm) (W : World) (h1 : BrsAt W A1 3 exB) (h2 : PcsAt W A2 3 ms exP) =>
    sawnO_c A1 A2 3 3 3 3 5 0 exB ms exP W 2 (by omega) (by omega) ex_h3 h1 h2 (ev_ask true rfl) ev_least 0 5 65 70 (by rw [ev_cut]; rfl) (by rfl) (by kernel_rfl) (by kernel_rfl))
  have hlen := Lib.hid (fun (A : Option Addr) (c : Nat) (W : World) (h : DdsAt W A 1 [⟨1, 0, 0, 1, 0⟩]) => Length2_c A none 1 c 0 0 0 [⟨1, 0, 0, 1, 0⟩] [] W (by omega) (by omega) ev_ck2 h ⟨rfl, fun h => absurd h (by omega)⟩)
  rw [ev_ln2] at hlen
  go_enter Try.func13, Try.ntmps13
  go_wp2_with fail
  refine (Example_c_q11 _).mono ?_
  rintro e w1 ⟨A0, c0, A1, c1, A2, c2, A3, c3, rfl, h1, h2, -, -, hb1⟩
  have H1 := Lib.hid h1
  have H2 := Lib.hid h2
  clear h1 h2
  go_upto_region 2 with (fail)
  go_name_world Y hY
  have BY : Below w1.heap.size w1 Y := (al2 hY).1
  have q0 := (al2_0 hY).2.1
  have l0 := (al2_0 hY).1
  have bY : Below w.heap.size w Y := hb1.trans (BY.mono hb1.size)
  clear hY
  go_wp2_with fail
  refine (Line_c A0 A1 3 c0 4 c1 0 2 exPl exLs _ (by omega) (by omega) (H1.out.later BY) (H2.out.later BY)).mono ?_
  rw [ev_a1]
  rintro e w2 ⟨rfl, hb2⟩
  have b2 : Below w.heap.size w w2 := bY.trans (hb2.mono bY.size)
  clear hb1 hb2 q0 H1 H2 BY bY l0
  go_upto_region 3 with (fail)
  go_name_world Z hZ
  have KZ : Hid (Blk Z w2.heap.size 29 #[.int .i64 55, .int .i64 58]) := Lib.hid (by rw [← hZ]; exact Blk.new w2 _ _)
  have bZ : Below w.heap.size w Z := b2.trans ((al1 hZ).1.mono b2.size)
  clear hZ b2
  go_wp2_with fail
  refine (hlen.out _ _ _ (sl_new encD_len rfl rfl rfl)).mono ?_
  rintro e w3 ⟨rfl, hb3⟩
  have b3 : Below w.heap.size w w3 := (bZ.alloc bZ.size _).trans (hb3.mono (by simp only [World.size_alloc]; have := bZ.size; omega))
  have K3 := Lib.hid ((KZ.out.alloc _).below hb3 (KZ.out.alloc _).lt)
  clear hb3 KZ bZ
  go_wp2_with fail
  refine (Example_c _).mono ?_
  rintro e w4 ⟨B1, B2, ms, rfl, h5, h6, hb4⟩
  have H5 := Lib.hid h5
  have H6 := Lib.hid h6
  have b4 : Below w.heap.size w w4 := b3.trans (hb4.mono b3.size)
  have K4 := Lib.hid (K3.out.below hb4 K3.out.lt)
  clear h5 h6 hb4 K3 b3
  go_wp2_with fail
  refine (hsaw.out _ _ ms _ H5.out H6.out).mono ?_
  rintro e w5 ⟨rfl, hb5⟩
  have b5 : Below w.heap.size w w5 := b4.trans (hb5.mono b4.size)
  have K5 := Lib.hid (K4.out.below hb5 K4.out.lt)
  clear hb5 K4 b4 H5 H6
  go_upto_region 5 with (fail)
  go_name_world V hV
  have k3 := ((al2 hV).1.cell (p := ⟨w2.heap.size, 0, none⟩) K5.out.lt).trans (K5.out.cell 0)
  have k3b := ((al2 hV).1.cell (p := ⟨w2.heap.size, 1, none⟩) K5.out.lt).trans (K5.out.cell 1)
  have k7 := (al2_0 hV).2.1
  have l7 := (al2_0 hV).1
  have l3 : w2.heap.size < V.heap.size := Nat.lt_of_lt_of_le K5.out.lt (al2 hV).1.size
  have b6 : Below w.heap.size w V := b5.trans ((al2 hV).1.mono b5.size)
  clear hV
  go_wp2_with fail
  go_ret
  exact ⟨rfl, b6⟩

end Go.Proofs.Ytdhlnlmhdacblaa
