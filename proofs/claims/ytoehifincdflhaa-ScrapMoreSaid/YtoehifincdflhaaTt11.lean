/- ScrapTrue (layer 11), walked. -/
import Derived.Test.YtoehifincdflhaaTm11
import Derived.Test.YtoehifincdflhaaWk11
import Derived.Test.YtoehifincdflhaaFa11
namespace Go.Proofs.Ytoehifincdflhaa
open Go.RowKit
open Go.Sort (grow)
set_option linter.unusedVariables false

theorem ans_ok {np nl : Nat} {pl : List Sp} {ls : List Ln} {wrg : Int} {b : Bool} (h : askZ np nl pl ls wrg true = 0) (hb : b = true) (s : Sp) : ansS (askZ np nl pl ls wrg b) s = vSp s.lo s.hi 0 := by
  subst hb; rw [h]; rfl
theorem few_ok {np nl : Nat} {pl : List Sp} {ls : List Ln} {wrg : Int} {k : Nat} (hck : ckBk np nl pl ls wrg = true) (h : fewL np nl pl ls = some k) : fewR np nl pl ls wrg = ((k : Int), 0) := by
  simp [fewR, hck, h, fewO]
theorem wi_yes {x a b : Int} (h : a ≤ x ∧ x ≤ b) : wi x a b = true := wi_true.2 h
set_option maxRecDepth 100000 in
set_option maxHeartbeats 6400000 in
theorem True_c (Ap Al Aw As : Option Addr) (np cp nl cl nw cw ns cs : Nat) (wrg : Int) (pl : List Sp) (ls : List Ln) (ws ss : List Int) (w : World) (hp : np ≤ 9223372036854775807) (hl : nl ≤ 9223372036854775807) (hw : nw ≤ 9223372036854775807) (hs : ns ≤ 9223372036854775807)
    (HP : SpsAt w Ap np pl) (HL : LnsAt w Al nl ls) (HW : IntsAt w Aw nw ws) (HS : IntsAt w As ns ss) :
    Calls Try.prog 4 #[.agg #[.slice Ap np cp, .slice Al nl cl, .int .i64 wrg], .agg #[.slice Aw nw cw, .slice As ns cs]] w
      fun e w' => e = .returned (.bool true) ∧ Below w.heap.size w w' := by
  have HPI := Lib.hid HP
  have HLI := Lib.hid HL
  have HWI := Lib.hid HW
  have HSI := Lib.hid HS
  have lpI := Lib.hid HP.1
  have llI := Lib.hid HL.1
  have lwI := Lib.hid HW.1
  have lsI := Lib.hid HS.1
  clear HP HL HW HS
  by_cases hbig : 40 < np ∨ 40 < nl
  · skip
    go_enter Try.func4, Try.ntmps4
    go_wp2_with fail
    obtain ⟨X, hX⟩ : ∃ X, (w.alloc (.cells #[.slice Ap np cp, .slice Al nl cl, .int .i64 wrg] 25)).alloc (.cells #[.slice Aw nw cw, .slice As ns cs] 41) = X := ⟨_, rfl⟩
    rw [hX]
    have D := Lib.hid (al2_0 hX).2.1
    have P := Lib.hid (al2_1 hX).2.1
    have nX := (al2_0 hX).1
    have mX := (al2_1 hX).1
    have BW := (al2 hX).1
    have zX := BW.size
    have B0 : Below X.heap.size X X := Below.refl _ _
    clear hX
    go_at_call 11
    refine (readyBig_c Ap Al np cp nl cl wrg X hbig hp hl).mono ?_
    rintro e w1 ⟨rfl, hb1⟩
    have B1 : Below X.heap.size X w1 := B0.trans (hb1.mono B0.size)
    have z1 := B1.size
    have d1 := fun i => (B1.cell (p := ⟨w.heap.size, i, none⟩) nX).trans (D.out i)
    have p1 := fun i => (B1.cell (p := ⟨w.heap.size + 1, i, none⟩) mX).trans (P.out i)
    clear hb1
    go_wp2_with (go_at_call 13; refine (works_c _).mono ?_; (rintro e w8 ⟨rfl, hb8⟩))
    go_ret
    exact ⟨rfl, BW.trans (Below.mono (B1.trans (hb8.mono B1.size)) zX)⟩
  have hp40 : np ≤ 40 := by omega
  have hl40 : nl ≤ 40 := by omega
  clear hbig hp hl
  cases hr : rdyB np nl pl ls wrg
  · skip
    go_enter Try.func4, Try.ntmps4
    go_wp2_with fail
    obtain ⟨X, hX⟩ : ∃ X, (w.alloc (.cells #[.slice Ap np cp, .slice Al nl cl, .int .i64 wrg] 25)).alloc (.cells #[.slice Aw nw cw, .slice As ns cs] 41) = X := ⟨_, rfl⟩
    rw [hX]
    have D := Lib.hid (al2_0 hX).2.1
    have P := Lib.hid (al2_1 hX).2.1
    have nX := (al2_0 hX).1
    have mX := (al2_1 hX).1
    have BW := (al2 hX).1
    have zX := BW.size
    have B0 : Below X.heap.size X X := Below.refl _ _
    clear hX
    go_at_call 11
    refine (ready_c Ap Al np cp nl cl wrg pl ls X hp40 hl40 (HPI.out.later BW) (HLI.out.later BW)).mono ?_
    rw [hr]
    rintro e w1 ⟨rfl, hb1⟩
    have B1 : Below X.heap.size X w1 := B0.trans (hb1.mono B0.size)
    have z1 := B1.size
    have d1 := fun i => (B1.cell (p := ⟨w.heap.size, i, none⟩) nX).trans (D.out i)
    have p1 := fun i => (B1.cell (p := ⟨w.heap.size + 1, i, none⟩) mX).trans (P.out i)
    clear hb1
    go_wp2_with (go_at_call 13; refine (works_c _).mono ?_; (rintro e w8 ⟨rfl, hb8⟩))
    go_ret
    exact ⟨rfl, BW.trans (Below.mono (B1.trans (hb8.mono B1.size)) zX)⟩
  obtain ⟨hck, hp4, hl6⟩ := rdyB_yes hr
  have HR := Lib.hid hr
  have HCK := Lib.hid hck
  clear hr hck
  go_enter Try.func4, Try.ntmps4
  go_wp2_with fail
  obtain ⟨X, hX⟩ : ∃ X, (w.alloc (.cells #[.slice Ap np cp, .slice Al nl cl, .int .i64 wrg] 25)).alloc (.cells #[.slice Aw nw cw, .slice As ns cs] 41) = X := ⟨_, rfl⟩
  rw [hX]
  have D := Lib.hid (al2_0 hX).2.1
  have P := Lib.hid (al2_1 hX).2.1
  have nX := (al2_0 hX).1
  have mX := (al2_1 hX).1
  have BW := (al2 hX).1
  have zX := BW.size
  have B0 : Below X.heap.size X X := Below.refl _ _
  clear hX
  go_at_call 11
  refine (ready_c Ap Al np cp nl cl wrg pl ls X hp40 hl40 (HPI.out.later BW) (HLI.out.later BW)).mono ?_
  rw [HR.out]
  rintro e w1 ⟨rfl, hb1⟩
  have B1 : Below X.heap.size X w1 := B0.trans (hb1.mono B0.size)
  have z1 := B1.size
  have d1 := fun i => (B1.cell (p := ⟨w.heap.size, i, none⟩) nX).trans (D.out i)
  have p1 := fun i => (B1.cell (p := ⟨w.heap.size + 1, i, none⟩) mX).trans (P.out i)
  clear hb1
  go_wp2_with fail
  go_at_call 18
  by_cases hfar : 40 < nw ∨ 40 < ns
  · refine (farPlan_c Aw As nw cw ns cs w1).mono ?_
    rw [show (decide (40 < nw) || decide (40 < ns)) = true by simpa using hfar]
    rintro e w2 ⟨rfl, hb2⟩
    have B2 : Below X.heap.size X w2 := B1.trans (hb2.mono B1.size)
    have z2 := B2.size
    have d2 := fun i => (B2.cell (p := ⟨w.heap.size, i, none⟩) nX).trans (D.out i)
    have p2 := fun i => (B2.cell (p := ⟨w.heap.size + 1, i, none⟩) mX).trans (P.out i)
    clear hb2
    go_wp2_with (go_at_call 13; refine (works_c _).mono ?_; (rintro e w8 ⟨rfl, hb8⟩))
    go_ret
    exact ⟨rfl, BW.trans (Below.mono (B2.trans (hb8.mono B2.size)) zX)⟩
  have hw40 : nw ≤ 40 := by omega
  have hs40 : ns ≤ 40 := by omega
  refine (farPlan_c Aw As nw cw ns cs w1).mono ?_
  rw [show (decide (40 < nw) || decide (40 < ns)) = false by simpa using hfar]
  rintro e w2 ⟨rfl, hb2⟩
  clear hfar hw hs
  have B2 : Below X.heap.size X w2 := B1.trans (hb2.mono B1.size)
  have z2 := B2.size
  have d2 := fun i => (B2.cell (p := ⟨w.heap.size, i, none⟩) nX).trans (D.out i)
  have p2 := fun i => (B2.cell (p := ⟨w.heap.size + 1, i, none⟩) mX).trans (P.out i)
  clear hb2
  clear d1 p1
  have hok := (okBk_of lpI.out llI.out HCK.out).1
  have HK := Lib.hid hok
  clear hok
  go_wp2_with fail
  go_at_call 19
  have BW2 : Below w.heap.size w w2 := BW.trans (B2.mono zX)
  cases ht : isTr np nl nw ns pl ls wrg ws ss
  · refine (IsTruth_c Ap Al Aw As np cp nl cl nw cw ns cs wrg pl ls ws ss w2 HK.out hw40 hs40 (HPI.out.later BW2) (HLI.out.later BW2) (HWI.out.later BW2) (HSI.out.later BW2)).mono ?_
    rw [ht]
    rintro e w3 ⟨rfl, hb3⟩
    have B3 : Below X.heap.size X w3 := B2.trans (hb3.mono B2.size)
    have z3 := B3.size
    have d3 := fun i => (B3.cell (p := ⟨w.heap.size, i, none⟩) nX).trans (D.out i)
    have p3 := fun i => (B3.cell (p := ⟨w.heap.size + 1, i, none⟩) mX).trans (P.out i)
    clear hb3
    go_wp2_with (go_at_call 13; refine (works_c _).mono ?_; (rintro e w8 ⟨rfl, hb8⟩))
    go_ret
    exact ⟨rfl, BW.trans (Below.mono (B3.trans (hb8.mono B3.size)) zX)⟩
  have hac : isAc nl nw ns ls ws ss = true := by
    simp only [isTr, Bool.and_eq_true] at ht
    exact ht.1
  obtain ⟨rfl, rfl, bw, bs⟩ := acc_bd lwI.out lsI.out HK.out hac
  refine (IsTruth_c Ap Al Aw As np cp ns cl ns cw ns cs wrg pl ls ws ss w2 HK.out hw40 hs40 (HPI.out.later BW2) (HLI.out.later BW2) (HWI.out.later BW2) (HSI.out.later BW2)).mono ?_
  rw [ht]
  rintro e w3 ⟨rfl, hb3⟩
  have B3 : Below X.heap.size X w3 := B2.trans (hb3.mono B2.size)
  have z3 := B3.size
  have d3 := fun i => (B3.cell (p := ⟨w.heap.size, i, none⟩) nX).trans (D.out i)
  have p3 := fun i => (B3.cell (p := ⟨w.heap.size + 1, i, none⟩) mX).trans (P.out i)
  clear hb3
  have T := Lib.hid (truth_ok lpI.out llI.out HCK.out ht)
  have BWs := Lib.hid bw
  have BSs := Lib.hid bs
  obtain ⟨kF, hkF, hkle⟩ := T.out.few
  obtain ⟨wn, hwn⟩ : ∃ wn, wrgN ls ws ns = wn := ⟨_, rfl⟩
  rw [hwn] at hkle
  have HWN := Lib.hid hwn
  have HKF := Lib.hid (few_ok (wrg := wrg) HCK.out hkF)
  have hwn6 : wn ≤ ns := by
    rw [← hwn]; exact cntF_le ns _
  have hstl : (strL np ns pl ls wrg).length ≤ ns := strK_len ns
  clear ht hac bw bs d2 p2 hkF hwn
  have BW3 : Below w.heap.size w w3 := BW.trans (B3.mono zX)
  go_wp2_with fail
  refine (fewest_c Ap Al np cp ns cl wrg pl ls w3 hp40 hl40 (HPI.out.later BW3) (HLI.out.later BW3)).mono ?_
  rw [HKF.out]
  rintro e w4 ⟨rfl, hb4⟩
  have B4 : Below X.heap.size X w4 := B3.trans (hb4.mono B3.size)
  have z4 := B4.size
  have d4 := fun i => (B4.cell (p := ⟨w.heap.size, i, none⟩) nX).trans (D.out i)
  have p4 := fun i => (B4.cell (p := ⟨w.heap.size + 1, i, none⟩) mX).trans (P.out i)
  clear hb4
  clear d3 p3
  have BW4 : Below w.heap.size w w4 := BW.trans (B4.mono zX)
  go_wp2_with fail
  refine (Strange_c Ap Al np cp ns cl wrg pl ls w4 hp40 hl40 (HPI.out.later BW4) (HLI.out.later BW4)).mono ?_
  rintro e w5 ⟨hb5, (⟨hne, -⟩ | ⟨-, Ag, cg, rfl, hG⟩)⟩
  · exact absurd T.out.ask hne
  have HG := Lib.hid hG
  clear hG
  have B5 : Below X.heap.size X w5 := B4.trans (hb5.mono B4.size)
  have z5 := B5.size
  have d5 := fun i => (B5.cell (p := ⟨w.heap.size, i, none⟩) nX).trans (D.out i)
  have p5 := fun i => (B5.cell (p := ⟨w.heap.size + 1, i, none⟩) mX).trans (P.out i)
  clear hb5
  clear d4 p4
  have BW5 : Below w.heap.size w w5 := BW.trans (B5.mono zX)
  go_wp2_with fail
  refine (Lost_c Ap Al np cp ns cl wrg pl ls w5 hp40 hl40 (HPI.out.later BW5) (HLI.out.later BW5)).mono ?_
  rw [ans_ok T.out.ask rfl]
  rintro e w6 ⟨rfl, hb6⟩
  have HG6 := Lib.hid (HG.out.later hb6)
  have B6 : Below X.heap.size X w6 := B5.trans (hb6.mono B5.size)
  have z6 := B6.size
  have d6 := fun i => (B6.cell (p := ⟨w.heap.size, i, none⟩) nX).trans (D.out i)
  have p6 := fun i => (B6.cell (p := ⟨w.heap.size + 1, i, none⟩) mX).trans (P.out i)
  clear hb6
  clear d5 p5
  obtain ⟨n1, hn1⟩ : ∃ n1, (endsB np ns pl ls wrg (2 * ns + np)).lo = n1 := ⟨_, rfl⟩
  obtain ⟨n2, hn2⟩ : ∃ n2, (endsB np ns pl ls wrg (2 * ns + np)).hi = n2 := ⟨_, rfl⟩
  rw [hn1, hn2]
  have HT := Lib.hid T.out.t
  have HT1 := Lib.hid hn1
  have HT2 := Lib.hid hn2
  clear hn1 hn2
  obtain ⟨g, hg⟩ : ∃ g, (strL np ns pl ls wrg).length = g := ⟨_, rfl⟩
  rw [hg] at hstl ⊢
  have HGL := Lib.hid hg
  have HG7 : Hid (IntsAt w6 Ag g ((strL np ns pl ls wrg).map fun k : Nat => (k : Int))) := by rw [← hg]; exact HG6.out
  clear hg
  have n6 : w.heap.size < w6.heap.size := by omega
  have m6 : w.heap.size + 1 < w6.heap.size := by omega
  unfold vSp
  go_wp2_with fail
  have BW6a : Below w.heap.size w (w6.alloc (.cells #[.int .i64 n1, .int .i64 n2] 31)) := (BW.trans (B6.mono zX)).alloc (by omega) _
  refine (Wrongs_c Ap Al Aw As np cp ns cl ns cw ns cs wrg ls ws _ hl40 hw40 (Nat.le_refl _) (HLI.out.later BW6a) (HWI.out.later BW6a)).mono ?_
  rw [HWN.out]
  rintro e w7 ⟨rfl, hb7⟩
  have z7 := hb7.size
  simp only [World.size_alloc] at z7
  have B7 : Below X.heap.size X w7 := Below.trans (B6.alloc (by omega) _) (hb7.mono (by simp; omega))
  have d7 := fun i => (B7.cell (p := ⟨w.heap.size, i, none⟩) nX).trans (D.out i)
  have p7 := fun i => (B7.cell (p := ⟨w.heap.size + 1, i, none⟩) mX).trans (P.out i)
  have S7 := Lib.hid (fun i => (hb7.cell (p := ⟨w6.heap.size, i, none⟩) (by simp)).trans ((al1_0 rfl).2.1 i))
  have HG8 := Lib.hid ((HG7.out.later ((Below.refl w6.heap.size w6).alloc (Nat.le_refl _) (.cells #[.int .i64 n1, .int .i64 n2] 31))).later hb7)
  have n7 : w.heap.size < w7.heap.size := by omega
  have m7 : w.heap.size + 1 < w7.heap.size := by omega
  have s7 : w6.heap.size < w7.heap.size := by omega
  have BW7 : Below w.heap.size w w7 := BW.trans (B7.mono zX)
  have zz7 := BW7.size
  clear hb7 d6 p6 BW6a
  have e1 : decide ((kF : Int) < 0) = false := by simp
  have e2 : decide (wn < kF) = false := by simp; omega
  have e3 : decide (ns < g) = false := by simp; omega
  go_wp2_with fail
  go_loopw [11] (fun i (wr : World) => ∃ k : Nat, k ≤ g ∧ i = .int .i64 k ∧ Below w7.heap.size w7 wr) (fun i _ => g - (intOf i).toNat)
  case atStart => exact ⟨0, by omega, rfl, Below.refl _ _⟩
  case round =>
    obtain ⟨k, hk, rfl, hb⟩ := hrel
    have zb := hb.size
    have d8 := fun i => (hb.cell (p := ⟨w.heap.size, i, none⟩) n7).trans (d7 i)
    have p8 := fun i => (hb.cell (p := ⟨w.heap.size + 1, i, none⟩) m7).trans (p7 i)
    have n8 : w.heap.size < wr.heap.size := by omega
    have m8 : w.heap.size + 1 < wr.heap.size := by omega
    have BWr : Below w.heap.size w wr := BW7.trans (hb.mono zz7)
    by_cases hlt : k < g
    · have hB : decide ((k : Int) < g) = true := by simp; omega
      obtain ⟨bg, og, hAg, hbg, x0⟩ := (HG8.out.later hb).get hlt
      subst hAg
      have hq : ∃ q : Nat, iAt ((strL np ns pl ls wrg).map fun k : Nat => (k : Int)) k = (q : Int) ∧ q ∈ strL np ns pl ls wrg := by
        have hl : k < (strL np ns pl ls wrg).length := by rw [HGL.out]; exact hlt
        refine ⟨(strL np ns pl ls wrg)[k], ?_, List.getElem_mem hl⟩
        unfold iAt
        rw [List.getD_eq_getElem?_getD, List.getElem?_map, List.getElem?_eq_getElem hl]; rfl
      obtain ⟨q, hq1, hq2⟩ := hq
      obtain ⟨hq3, hq4⟩ := T.out.str q hq2
      rw [hq1] at x0
      have hIL : ∀ W, Calls Try.prog 12 #[.agg #[.slice Ap np cp, .slice Al ns cl, .int .i64 wrg], .int .i64 (q : Int)] W fun e W' => e = .returned (.bool true) ∧ Below W.heap.size W W' := fun W => by
        have := IsLine_c Ap Al np cp ns cl wrg (q : Int) W hl40
        rwa [isNo_nat hq3] at this
      have hIR : ∀ W, Below wr.heap.size wr W → Calls Try.prog 23 #[.agg #[.slice Ap np cp, .slice Al ns cl, .int .i64 wrg], .agg #[.slice Aw ns cw, .slice As ns cs], .int .i64 (q : Int)] W fun e W' => e = .returned (.bool false) ∧ Below W.heap.size W W' := fun W hW => by
        have := IsRight_c Ap Al Aw As np cp ns cl ns cw ns cs q wrg ls ws W hl40 hw40 hq3 hq3 (HLI.out.later (BWr.trans (hW.mono BWr.size))) (HWI.out.later (BWr.trans (hW.mono BWr.size)))
        rwa [hq4] at this
      replace hIL := Lib.hid hIL
      replace hIR := Lib.hid hIR
      clear hq1 hq4
      go_wp2_with fail
      have hcq := fun p : Regrown => (bcell (below_regrown wr p.d p.os)).1
      refine wp_region_quiet_below (by kernel_rfl) (by kernel_rfl) ?_
      repeat (go_big_quiet_step (((first | (go_at_call 12; exact Calls.regrown_of (hIL.out _)) | (go_at_call 23; exact Calls.regrown_of (hIR.out _ (below_regrown _ _ _)))))))
      refine wpQuiet_nil ?_
      intro w9 hq
      obtain ⟨pq, hq⟩ := hq
      have hb9 : Below wr.heap.size wr w9 := by rw [hq]; exact below_regrown _ _ _
      clear hq hcq pq
      obtain ⟨hc9, hf9⟩ := bcell hb9
      have z9 := hb9.size
      go_wp2
      refine ⟨⟨k + 1, by omega, by simp, hb.trans (hb9.mono zb)⟩, by simp [intOf]; omega⟩
    · obtain rfl : k = g := by omega
      have hB : decide (((k : Nat) : Int) < k) = false := by simp
      go_wp2_with fail
      obtain ⟨wo, rfl⟩ : ∃ wo : World, wo = wr := ⟨_, rfl⟩
      clear d8 p8 n8 m8
      have hsb := Lib.hid (fun k => sumF_bd (f := iAt ss) (M := 999) (fun i => by have := BSs.out i; omega) k)
      go_loopw [12, 13] (fun v i (wr : World) => ∃ j : Nat, j ≤ ns ∧ i = .int .i64 j ∧ v = .int .i64 (sumF (iAt ss) j) ∧ Below w7.heap.size w7 wr) (fun _ i _ => ns - (intOf i).toNat)
      case atStart => exact ⟨0, by omega, rfl, rfl, hb⟩
      case round =>
        obtain ⟨j, hj, rfl, rfl, hb⟩ := hrel
        obtain ⟨sm, hsm⟩ : ∃ sm, sumF (iAt ss) j = sm := ⟨_, rfl⟩
        have hs1 := hsb.out j
        rw [hsm] at hs1 ⊢
        have HSS := Lib.hid (show sumF (iAt ss) (j + 1) = sm + iAt ss j by rw [← hsm]; rfl)
        replace hsm := Lib.hid hsm
        have zb := hb.size
        have d8 := fun i => (hb.cell (p := ⟨w.heap.size, i, none⟩) n7).trans (d7 i)
        have p8 := fun i => (hb.cell (p := ⟨w.heap.size + 1, i, none⟩) m7).trans (p7 i)
        have n8 : w.heap.size < wr.heap.size := by omega
        have m8 : w.heap.size + 1 < wr.heap.size := by omega
        have BWr : Below w.heap.size w wr := BW7.trans (hb.mono zz7)
        by_cases hlt : j < ns
        · have hB : decide ((j : Int) < ns) = true := by simp; omega
          have hwj := T.out.w j hlt
          go_wp2_with fail
          refine (Line_c Ap Al np cp ns cl wrg (j : Int) pl ls wr hp40 hl40 (HPI.out.later BWr) (HLI.out.later BWr)).mono ?_
          rw [ans_ok T.out.ask (isNo_nat hlt), show 2 * (j : Int).toNat = 2 * j from rfl]
          rintro e w8 ⟨rfl, hb8⟩
          obtain ⟨a1, ha1⟩ : ∃ a1, (endsB np ns pl ls wrg (2 * j)).lo = a1 := ⟨_, rfl⟩
          obtain ⟨a2, ha2⟩ : ∃ a2, (endsB np ns pl ls wrg (2 * j)).hi = a2 := ⟨_, rfl⟩
          rw [ha1, ha2] at hwj ⊢
          have hyes := Lib.hid (wi_yes hwj)
          have B8 : Below w7.heap.size w7 w8 := hb.trans (hb8.mono zb)
          have z8 := B8.size
          have BW8 : Below w.heap.size w w8 := BW7.trans (B8.mono zz7)
          have d9 := fun i => (B8.cell (p := ⟨w.heap.size, i, none⟩) n7).trans (d7 i)
          have p9 := fun i => (B8.cell (p := ⟨w.heap.size + 1, i, none⟩) m7).trans (p7 i)
          have n9 : w.heap.size < w8.heap.size := by omega
          have m9 : w.heap.size + 1 < w8.heap.size := by omega
          clear hb8 d8 p8 ha1 ha2 hwj
          unfold vSp
          go_wp2_with fail
          go_name_world W5 hW5
          have hb5 : Below w8.heap.size w8 W5 := by rw [← hW5]; (repeat first | with_reducible assumption | with_reducible exact Below.refl _ _ | (with_reducible refine Below.alloc ?_ ?side _; case side => (first | omega | (with_reducible exact Below.size (by assumption)) | (simp; done) | (simp; omega))) | (with_reducible refine Below.setCell ?_ ?side _; case side => (first | omega | (with_reducible exact Below.size (by assumption)) | (simp; done) | (simp; omega))) | with_reducible refine Below.drew ?_ | with_reducible refine below_drewN ?_ _ | (with_reducible refine below_step (by assumption) ?side ?_; case side => (first | omega | (with_reducible exact Below.size (by assumption)) | (simp; done) | (simp; omega))))
          have u5 : ∀ i, W5.cell? ⟨w8.heap.size, i, none⟩ = #[Value.int .i64 a1, .int .i64 a2][i]? := fun i => by rw [← hW5]; exact World.cell?_alloc_new _ _ _ i
          have l5 : w8.heap.size < W5.heap.size := by rw [← hW5]; simp
          clear hW5
          have B5 : Below w7.heap.size w7 W5 := B8.trans (hb5.mono z8)
          have z5 := B5.size
          have BW5' : Below w.heap.size w W5 := BW7.trans (B5.mono zz7)
          have n55 : w.heap.size < W5.heap.size := by omega
          have m55 : w.heap.size + 1 < W5.heap.size := by omega
          have d5 := fun i => (B5.cell (p := ⟨w.heap.size, i, none⟩) n7).trans (d7 i)
          have p5 := fun i => (B5.cell (p := ⟨w.heap.size + 1, i, none⟩) m7).trans (p7 i)
          obtain ⟨bw, ow, hAw, hbw, y0⟩ := (HWI.out.later BW5').get hlt
          obtain ⟨bs, os, hAs, hbs, y1⟩ := (HSI.out.later BW5').get hlt
          subst hAw hAs
          have hss := BSs.out j
          have hho : ∀ W, Calls Try.prog 24 #[.agg #[.int .i64 a1, .int .i64 a2], .int .i64 (iAt ws j)] W fun e W' => e = .returned (.bool true) ∧ Below W.heap.size W W' := fun W => by
            have := holds_c a1 a2 (iAt ws j) W
            rwa [hyes.out] at this
          replace hho := Lib.hid hho
          clear d9 p9
          have hcq := fun p : Regrown => (bcell (below_regrown W5 p.d p.os)).1
          refine wp_region_quiet_below (by kernel_rfl) (by kernel_rfl) ?_
          repeat (go_big_quiet_step (((go_at_call 24; exact Calls.regrown_of (hho.out _)))))
          refine wpQuiet_nil ?_
          intro w9 hq
          obtain ⟨pq, hq⟩ := hq
          have hb9 : Below W5.heap.size W5 w9 := by rw [hq]; exact below_regrown _ _ _
          clear hq hcq pq
          obtain ⟨hc9, hf9⟩ := bcell hb9
          have z9 := hb9.size
          have y1' := (hb9.cell (p := ⟨bs, os + j, none⟩) hbs).trans y1
          have p9 := fun i => (hb9.cell (p := ⟨w.heap.size + 1, i, none⟩) (Nat.lt_of_lt_of_le m7 z5)).trans (p5 i)
          have n10 : w.heap.size + 1 < w9.heap.size := by omega
          have hsum : IntKind.i64.wrap (sm + iAt ss j) = sm + iAt ss j := IntWalk.i64_in _ (by omega)
          go_wp2
          go_roundw
          case rel => exact ⟨j + 1, by omega, by go_num, by rw [HSS.out], B5.trans (hb9.mono z5)⟩
          case measure => simp [intOf]; omega
        · obtain rfl : j = ns := by omega
          have hB : decide (((j : Nat) : Int) < j) = false := by simp
          go_wp2_with fail
          obtain ⟨wo2, rfl⟩ : ∃ wo : World, wo = wr := ⟨_, rfl⟩
          clear d8 p8 n8 m8
          go_loopw [16] (fun i (wr : World) => ∃ k : Nat, k ≤ np ∧ i = .int .i64 k ∧ Below w7.heap.size w7 wr) (fun i _ => np - (intOf i).toNat)
          case atStart => exact ⟨0, by omega, rfl, hb⟩
          case round =>
            obtain ⟨k, hk, rfl, hb⟩ := hrel
            have zb := hb.size
            have d8 := fun i => (hb.cell (p := ⟨w.heap.size, i, none⟩) n7).trans (d7 i)
            have p8 := fun i => (hb.cell (p := ⟨w.heap.size + 1, i, none⟩) m7).trans (p7 i)
            have n8 : w.heap.size < wr.heap.size := by omega
            have m8 : w.heap.size + 1 < wr.heap.size := by omega
            have BWr : Below w.heap.size w wr := BW7.trans (hb.mono zz7)
            by_cases hlt : k < np
            · have hB : decide ((k : Int) < np) = true := by simp; omega
              have hwj := T.out.c k hlt
              go_wp2_with fail
              refine (Stock_c Ap Al np cp j cl wrg (k : Int) pl ls wr hp40 hl40 (HPI.out.later BWr) (HLI.out.later BWr)).mono ?_
              rw [ans_ok T.out.ask (isNo_nat hlt), show 2 * j + (k : Int).toNat = 2 * j + k from rfl]
              rintro e w8 ⟨rfl, hb8⟩
              obtain ⟨a1, ha1⟩ : ∃ a1, (endsB np j pl ls wrg (2 * j + k)).lo = a1 := ⟨_, rfl⟩
              obtain ⟨a2, ha2⟩ : ∃ a2, (endsB np j pl ls wrg (2 * j + k)).hi = a2 := ⟨_, rfl⟩
              obtain ⟨cj, hcj⟩ : ∃ cj, chgN ls ws ss (k : Int) j = cj := ⟨_, rfl⟩
              rw [ha1, ha2, hcj] at hwj
              rw [ha1, ha2]
              have hyes := Lib.hid (wi_yes hwj)
              have HCJ := Lib.hid hcj
              have B8 : Below w7.heap.size w7 w8 := hb.trans (hb8.mono zb)
              have z8 := B8.size
              have BW8 : Below w.heap.size w w8 := BW7.trans (B8.mono zz7)
              have d9 := fun i => (B8.cell (p := ⟨w.heap.size, i, none⟩) n7).trans (d7 i)
              have p9 := fun i => (B8.cell (p := ⟨w.heap.size + 1, i, none⟩) m7).trans (p7 i)
              have n9 : w.heap.size < w8.heap.size := by omega
              have m9 : w.heap.size + 1 < w8.heap.size := by omega
              clear hb8 d8 p8 ha1 ha2 hwj hcj
              unfold vSp
              go_wp2_with fail
              go_name_world W5 hW5
              have hb5 : Below w8.heap.size w8 W5 := by rw [← hW5]; (repeat first | with_reducible assumption | with_reducible exact Below.refl _ _ | (with_reducible refine Below.alloc ?_ ?side _; case side => (first | omega | (with_reducible exact Below.size (by assumption)) | (simp; done) | (simp; omega))) | (with_reducible refine Below.setCell ?_ ?side _; case side => (first | omega | (with_reducible exact Below.size (by assumption)) | (simp; done) | (simp; omega))) | with_reducible refine Below.drew ?_ | with_reducible refine below_drewN ?_ _ | (with_reducible refine below_step (by assumption) ?side ?_; case side => (first | omega | (with_reducible exact Below.size (by assumption)) | (simp; done) | (simp; omega))))
              have u5 : ∀ i, W5.cell? ⟨w8.heap.size, i, none⟩ = #[Value.int .i64 a1, .int .i64 a2][i]? := fun i => by rw [← hW5]; exact World.cell?_alloc_new _ _ _ i
              have l5 : w8.heap.size < W5.heap.size := by rw [← hW5]; simp
              clear hW5
              have B5 : Below w7.heap.size w7 W5 := B8.trans (hb5.mono z8)
              have z5 := B5.size
              have BW5' : Below w.heap.size w W5 := BW7.trans (B5.mono zz7)
              have n55 : w.heap.size < W5.heap.size := by omega
              have m55 : w.heap.size + 1 < W5.heap.size := by omega
              have d5 := fun i => (B5.cell (p := ⟨w.heap.size, i, none⟩) n7).trans (d7 i)
              have p5 := fun i => (B5.cell (p := ⟨w.heap.size + 1, i, none⟩) m7).trans (p7 i)
              have hho : ∀ W, Calls Try.prog 24 #[.agg #[.int .i64 a1, .int .i64 a2], .int .i64 cj] W fun e W' => e = .returned (.bool true) ∧ Below W.heap.size W W' := fun W => by
                have := holds_c a1 a2 cj W
                rwa [hyes.out] at this
              have hch : ∀ W, Below W5.heap.size W5 W → Calls Try.prog 26 #[.agg #[.slice Ap np cp, .slice Al j cl, .int .i64 wrg], .agg #[.slice Aw j cw, .slice As j cs], .int .i64 (k : Int)] W fun e W' => e = .returned (.int .i64 cj) ∧ Below W.heap.size W W' := fun W hW => by
                have BWW := BW5'.trans (hW.mono BW5'.size)
                have := Change_c Ap Al Aw As np cp j cl j cw j cs wrg (k : Int) ls ws ss W hl40 hw40 hs40 (Nat.le_refl _) (Nat.le_refl _) (HLI.out.later BWW) (HWI.out.later BWW) (HSI.out.later BWW) BWs.out BSs.out
                rwa [HCJ.out] at this
              replace hho := Lib.hid hho
              replace hch := Lib.hid hch
              clear d9 p9
              have hcq := fun p : Regrown => (bcell (below_regrown W5 p.d p.os)).1
              refine wp_region_quiet_below (by kernel_rfl) (by kernel_rfl) ?_
              repeat (go_big_quiet_step (((first | (go_at_call 24; exact Calls.regrown_of (hho.out _)) | (go_at_call 26; exact Calls.regrown_of (hch.out _ (below_regrown _ _ _)))))))
              refine wpQuiet_nil ?_
              intro w9 hq
              obtain ⟨pq, hq⟩ := hq
              have hb9 : Below W5.heap.size W5 w9 := by rw [hq]; exact below_regrown _ _ _
              clear hq hcq pq
              obtain ⟨hc9, hf9⟩ := bcell hb9
              have z9 := hb9.size
              go_wp2
              go_roundw
              case rel => exact ⟨k + 1, by omega, by go_num, B5.trans (hb9.mono z5)⟩
              case measure => simp [intOf]; omega
            · obtain rfl : k = np := by omega
              have hB : decide (((k : Nat) : Int) < k) = false := by simp
              have hT := HT.out
              rw [HT1.out, HT2.out, hsm.out] at hT
              have hyes := Lib.hid (wi_yes hT)
              have s8 := fun i => (hb.cell (p := ⟨w6.heap.size, i, none⟩) s7).trans (S7.out i)
              have l8 : w6.heap.size < wr.heap.size := by omega
              clear hT
              go_wp2_with fail
              go_at_call 24
              refine (holds_c _ _ _ wr).mono ?_
              rw [hyes.out]
              rintro e w8 ⟨rfl, hb8⟩
              go_wp2_with (go_at_call 13; refine (works_c _).mono ?_; (rintro e w10 ⟨rfl, hb10⟩))
              go_ret
              exact ⟨rfl, BWr.trans ((hb8.trans (hb10.mono hb8.size)).mono BWr.size)⟩

end Go.Proofs.Ytoehifincdflhaa
