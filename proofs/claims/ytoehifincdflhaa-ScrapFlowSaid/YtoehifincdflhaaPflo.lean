/- ScrapFlow (layer 11): for every book and account the statement returns true, and the arguments read as before. -/
import Derived.Test.YtoehifincdflhaaZq11
import Derived.Test.YtoehifincdflhaaWk11
import Derived.Test.YtoehifincdflhaaFa11
import Derived.Test.YtoehifincdflhaaJb11
namespace Go.Proofs.Ytoehifincdflhaa
open Go.RowKit Go.ChangeShapes Go.WideShapes Go.ChangeAt Go.Deep Go.Joins
open Go.Sort (grow)
set_option linter.unusedVariables false

theorem ans_ok {np nl : Nat} {pl : List Sp} {ls : List Ln} {wrg : Int} {b : Bool} (h : askZ np nl pl ls wrg true = 0) (hb : b = true) (s : Sp) : ansS (askZ np nl pl ls wrg b) s = vSp s.lo s.hi 0 := by
  subst hb; rw [h]; rfl
theorem ck_8 {np nl : Nat} {pl : List Sp} {ls : List Ln} {wrg : Int} (h : ckBk np nl pl ls wrg = true) : ckBk np nl pl ls 8 = true := by
  unfold ckBk at h ⊢
  have : wi 8 0 8 = true := by decide
  rw [this]
  cases h1 : wi wrg 0 8 <;> rw [h1] at h
  · simp at h
  · exact h
set_option maxRecDepth 100000 in
set_option maxHeartbeats 6400000 in
theorem FlowLaw_c (Ap Al Aw As : Option Addr) (np cp nl cl nw cw ns cs : Nat) (wrg : Int) (pl : List Sp) (ls : List Ln) (ws ss : List Int) (w : World) (hp : np ≤ 9223372036854775807) (hl : nl ≤ 9223372036854775807) (hw : nw ≤ 9223372036854775807) (hs : ns ≤ 9223372036854775807)
    (HP : SpsAt w Ap np pl) (HL : LnsAt w Al nl ls) (HW : IntsAt w Aw nw ws) (HS : IntsAt w As ns ss) :
    Calls Try.prog 10 #[.agg #[.slice Ap np cp, .slice Al nl cl, .int .i64 wrg], .agg #[.slice Aw nw cw, .slice As ns cs]] w
      fun e w' => e = .returned (.bool true) ∧ Below w.heap.size w w' := by
  have HPI := Lib.hid HP
  have HLI := Lib.hid HL
  have HWI := Lib.hid HW
  have HSI := Lib.hid HS
  have lpI := Lib.hid HP.1
  have llI := Lib.hid HL.1
  have lwI := Lib.hid HW.1
  have lsI := Lib.hid HS.1
  clear HP HL HW HS
  by_cases hbig : 40 < np ∨ 40 < nl
  · skip
    go_enter Try.func10, Try.ntmps10
    go_wp2_with fail
    obtain ⟨X, hX⟩ : ∃ X, (w.alloc (.cells #[.slice Ap np cp, .slice Al nl cl, .int .i64 wrg] 25)).alloc (.cells #[.slice Aw nw cw, .slice As ns cs] 41) = X := ⟨_, rfl⟩
    rw [hX]
    have D := Lib.hid (al2_0 hX).2.1
    have P := Lib.hid (al2_1 hX).2.1
    have nX := (al2_0 hX).1
    have mX := (al2_1 hX).1
    have BW := (al2 hX).1
    have zX := BW.size
    have B0 : Below X.heap.size X X := Below.refl _ _
    clear hX
    go_at_call 11
    refine (readyBig_c Ap Al np cp nl cl wrg X hbig hp hl).mono ?_
    rintro e w1 ⟨rfl, hb1⟩
    have B1 : Below X.heap.size X w1 := B0.trans (hb1.mono B0.size)
    have z1 := B1.size
    have d1 := fun i => (B1.cell (p := ⟨w.heap.size, i, none⟩) nX).trans (D.out i)
    have p1 := fun i => (B1.cell (p := ⟨w.heap.size + 1, i, none⟩) mX).trans (P.out i)
    clear hb1
    go_wp2_with (go_at_call 13; refine (works_c _).mono ?_; (rintro e w8 ⟨rfl, hb8⟩))
    go_ret
    exact ⟨rfl, BW.trans (Below.mono (B1.trans (hb8.mono B1.size)) zX)⟩
  have hp40 : np ≤ 40 := by omega
  have hl40 : nl ≤ 40 := by omega
  clear hbig hp hl
  cases hr : rdyB np nl pl ls wrg
  · skip
    go_enter Try.func10, Try.ntmps10
    go_wp2_with fail
    obtain ⟨X, hX⟩ : ∃ X, (w.alloc (.cells #[.slice Ap np cp, .slice Al nl cl, .int .i64 wrg] 25)).alloc (.cells #[.slice Aw nw cw, .slice As ns cs] 41) = X := ⟨_, rfl⟩
    rw [hX]
    have D := Lib.hid (al2_0 hX).2.1
    have P := Lib.hid (al2_1 hX).2.1
    have nX := (al2_0 hX).1
    have mX := (al2_1 hX).1
    have BW := (al2 hX).1
    have zX := BW.size
    have B0 : Below X.heap.size X X := Below.refl _ _
    clear hX
    go_at_call 11
    refine (ready_c Ap Al np cp nl cl wrg pl ls X hp40 hl40 (HPI.out.later BW) (HLI.out.later BW)).mono ?_
    rw [hr]
    rintro e w1 ⟨rfl, hb1⟩
    have B1 : Below X.heap.size X w1 := B0.trans (hb1.mono B0.size)
    have z1 := B1.size
    have d1 := fun i => (B1.cell (p := ⟨w.heap.size, i, none⟩) nX).trans (D.out i)
    have p1 := fun i => (B1.cell (p := ⟨w.heap.size + 1, i, none⟩) mX).trans (P.out i)
    clear hb1
    go_wp2_with (go_at_call 13; refine (works_c _).mono ?_; (rintro e w8 ⟨rfl, hb8⟩))
    go_ret
    exact ⟨rfl, BW.trans (Below.mono (B1.trans (hb8.mono B1.size)) zX)⟩
  obtain ⟨hck, hp4, hl6⟩ := rdyB_yes hr
  have HR := Lib.hid hr
  have HCK := Lib.hid hck
  have HCK8 := Lib.hid (ck_8 hck)
  clear hr hck
  go_enter Try.func10, Try.ntmps10
  go_wp2_with fail
  obtain ⟨X, hX⟩ : ∃ X, (w.alloc (.cells #[.slice Ap np cp, .slice Al nl cl, .int .i64 wrg] 25)).alloc (.cells #[.slice Aw nw cw, .slice As ns cs] 41) = X := ⟨_, rfl⟩
  rw [hX]
  have D := Lib.hid (al2_0 hX).2.1
  have P := Lib.hid (al2_1 hX).2.1
  have nX := (al2_0 hX).1
  have mX := (al2_1 hX).1
  have BW := (al2 hX).1
  have zX := BW.size
  have B0 : Below X.heap.size X X := Below.refl _ _
  clear hX
  go_at_call 11
  refine (ready_c Ap Al np cp nl cl wrg pl ls X hp40 hl40 (HPI.out.later BW) (HLI.out.later BW)).mono ?_
  rw [HR.out]
  rintro e w1 ⟨rfl, hb1⟩
  have B1 : Below X.heap.size X w1 := B0.trans (hb1.mono B0.size)
  have z1 := B1.size
  have d1 := fun i => (B1.cell (p := ⟨w.heap.size, i, none⟩) nX).trans (D.out i)
  have p1 := fun i => (B1.cell (p := ⟨w.heap.size + 1, i, none⟩) mX).trans (P.out i)
  clear hb1
  go_wp2_with fail
  go_at_call 18
  by_cases hfar : 40 < nw ∨ 40 < ns
  · refine (farPlan_c Aw As nw cw ns cs w1).mono ?_
    rw [show (decide (40 < nw) || decide (40 < ns)) = true by simpa using hfar]
    rintro e w2 ⟨rfl, hb2⟩
    have B2 : Below X.heap.size X w2 := B1.trans (hb2.mono B1.size)
    have z2 := B2.size
    have d2 := fun i => (B2.cell (p := ⟨w.heap.size, i, none⟩) nX).trans (D.out i)
    have p2 := fun i => (B2.cell (p := ⟨w.heap.size + 1, i, none⟩) mX).trans (P.out i)
    clear hb2
    go_wp2_with (go_at_call 13; refine (works_c _).mono ?_; (rintro e w8 ⟨rfl, hb8⟩))
    go_ret
    exact ⟨rfl, BW.trans (Below.mono (B2.trans (hb8.mono B2.size)) zX)⟩
  have hw40 : nw ≤ 40 := by omega
  have hs40 : ns ≤ 40 := by omega
  refine (farPlan_c Aw As nw cw ns cs w1).mono ?_
  rw [show (decide (40 < nw) || decide (40 < ns)) = false by simpa using hfar]
  rintro e w2 ⟨rfl, hb2⟩
  clear hfar hw hs
  have B2 : Below X.heap.size X w2 := B1.trans (hb2.mono B1.size)
  have z2 := B2.size
  have d2 := fun i => (B2.cell (p := ⟨w.heap.size, i, none⟩) nX).trans (D.out i)
  have p2 := fun i => (B2.cell (p := ⟨w.heap.size + 1, i, none⟩) mX).trans (P.out i)
  clear hb2
  clear d1 p1
  have hok := (okBk_of lpI.out llI.out HCK.out).1
  have HK := Lib.hid hok
  clear hok
  have n2 : w.heap.size < w2.heap.size := by omega
  have m2 : w.heap.size + 1 < w2.heap.size := by omega
  go_wp2_with fail
  obtain ⟨Y, hY⟩ : ∃ Y, w2.alloc (.cells #[.slice Ap np cp, .slice Al nl cl, .int .i64 8] 25) = Y := ⟨_, rfl⟩
  rw [hY]
  have y5 : ∀ j, Y.cell? ⟨w2.heap.size, j, none⟩ = #[Value.slice Ap np cp, .slice Al nl cl, .int .i64 8][j]? := fun j => by
    rw [← hY]; exact World.cell?_alloc_new _ _ _ j
  have hb3 : Below w2.heap.size w2 Y := by rw [← hY]; (repeat first | with_reducible assumption | with_reducible exact Below.refl _ _ | (with_reducible refine Below.alloc ?_ ?side _; case side => (first | omega | (with_reducible exact Below.size (by assumption)) | (simp; done) | (simp; omega))) | (with_reducible refine Below.setCell ?_ ?side _; case side => (first | omega | (with_reducible exact Below.size (by assumption)) | (simp; done) | (simp; omega))) | with_reducible refine Below.drew ?_ | with_reducible refine below_drewN ?_ _ | (with_reducible refine below_step (by assumption) ?side ?_; case side => (first | omega | (with_reducible exact Below.size (by assumption)) | (simp; done) | (simp; omega))))
  have o5 : w2.heap.size < Y.heap.size := by rw [← hY]; simp
  clear hY
  have B3 : Below X.heap.size X Y := B2.trans (hb3.mono B2.size)
  have z3 := B3.size
  have d3 := fun i => (B3.cell (p := ⟨w.heap.size, i, none⟩) nX).trans (D.out i)
  have p3 := fun i => (B3.cell (p := ⟨w.heap.size + 1, i, none⟩) mX).trans (P.out i)
  have BW3 : Below w.heap.size w Y := BW.trans (B3.mono zX)
  clear hb3 d2 p2
  go_at_call 19
  cases ht : isTr np nl nw ns pl ls 8 ws ss
  · refine (IsTruth_c Ap Al Aw As np cp nl cl nw cw ns cs 8 pl ls ws ss Y HK.out hw40 hs40 (HPI.out.later BW3) (HLI.out.later BW3) (HWI.out.later BW3) (HSI.out.later BW3)).mono ?_
    rw [ht]
    rintro e w4 ⟨rfl, hb4⟩
    have B4 : Below X.heap.size X w4 := B3.trans (hb4.mono B3.size)
    go_wp2_with (go_at_call 13; refine (works_c _).mono ?_; (rintro e w8 ⟨rfl, hb8⟩))
    go_ret
    exact ⟨rfl, BW.trans (Below.mono (B4.trans (hb8.mono B4.size)) zX)⟩
  have hac : isAc nl nw ns ls ws ss = true := by
    simp only [isTr, Bool.and_eq_true] at ht
    exact ht.1
  obtain ⟨rfl, rfl, bw, bs⟩ := acc_bd lwI.out lsI.out HK.out hac
  refine (IsTruth_c Ap Al Aw As np cp ns cl ns cw ns cs 8 pl ls ws ss Y HK.out hw40 hs40 (HPI.out.later BW3) (HLI.out.later BW3) (HWI.out.later BW3) (HSI.out.later BW3)).mono ?_
  rw [ht]
  rintro e w4 ⟨rfl, hb4⟩
  have T := Lib.hid (truth_ok lpI.out llI.out HCK8.out ht)
  have HT := Lib.hid ht
  have BWs := Lib.hid bw
  have BSs := Lib.hid bs
  have HX := Lib.hid (ctx_of lpI.out llI.out HCK.out)
  have y6 := fun j => (hb4.cell (p := ⟨w2.heap.size, j, none⟩) o5).trans (y5 j)
  have B4 : Below X.heap.size X w4 := B3.trans (hb4.mono B3.size)
  have zY := hb4.size
  have z4 := B4.size
  have o6 : w2.heap.size < w4.heap.size := by omega
  have BW4 : Below w.heap.size w w4 := BW.trans (B4.mono zX)
  have zw4 := BW4.size
  have d4 := Lib.hid (fun i => (B4.cell (p := ⟨w.heap.size, i, none⟩) nX).trans (D.out i))
  have p4 := Lib.hid (fun i => (B4.cell (p := ⟨w.heap.size + 1, i, none⟩) mX).trans (P.out i))
  have Y6 := Lib.hid y6
  have n4 : w.heap.size < w4.heap.size := by omega
  have m4 : w.heap.size + 1 < w4.heap.size := by omega
  have hfb := Lib.hid (fun k => sumF_bd (f := flI ls ws ss) (M := 1998) (fun i => by
    have h1 := bw i
    have h2 := bs i
    unfold flI
    generalize decide ((lnAt ls i).fr < 0) = a
    generalize decide ((lnAt ls i).to < 0) = b
    cases a <;> cases b <;> simp only [cond_true, cond_false] <;> omega) k)
  clear d3 p3 y5 y6 hb4 ht hac bw bs
  go_wp2_with fail
  go_loopw [6, 9] (fun v i (wr : World) => ∃ k : Nat, k ≤ ns ∧ i = .int .i64 k ∧ v = .int .i64 (sumF (flI ls ws ss) k) ∧ Below w4.heap.size w4 wr) (fun _ i _ => ns - (intOf i).toNat)
  case atStart => exact ⟨0, by omega, rfl, rfl, Below.refl _ _⟩
  case round =>
    obtain ⟨k, hk, rfl, rfl, hb⟩ := hrel
    obtain ⟨sm, hsm⟩ : ∃ sm, sumF (flI ls ws ss) k = sm := ⟨_, rfl⟩
    have hs1 := hfb.out k
    rw [hsm] at hs1 ⊢
    have HSS := Lib.hid (show sumF (flI ls ws ss) (k + 1) = sm + flI ls ws ss k by rw [← hsm]; rfl)
    replace hsm := Lib.hid hsm
    have zb := hb.size
    have d8 := fun i => (hb.cell (p := ⟨w.heap.size, i, none⟩) n4).trans (d4.out i)
    have p8 := fun i => (hb.cell (p := ⟨w.heap.size + 1, i, none⟩) m4).trans (p4.out i)
    have n8 : w.heap.size < wr.heap.size := by omega
    have m8 : w.heap.size + 1 < wr.heap.size := by omega
    have BWr : Below w.heap.size w wr := BW4.trans (hb.mono zw4)
    by_cases hlt : k < ns
    · have hB : decide ((k : Int) < ns) = true := by simp; omega
      obtain ⟨bl, ol, hAl, hbl, x0, x1, x2, x3, x4, x5⟩ := (HLI.out.later BWr).get hlt
      obtain ⟨bw, ow, hAw, hbw, y0⟩ := (HWI.out.later BWr).get hlt
      obtain ⟨bs, os, hAs, hbs, y1⟩ := (HSI.out.later BWr).get hlt
      have hww := BWs.out k
      have hsw := BSs.out k
      have hfl : Hid (flI ls ws ss k = (bif decide ((lnAt ls k).fr < 0) then iAt ws k else 0) - (bif decide ((lnAt ls k).to < 0) then iAt ws k else iAt ss k)) := rfl
      obtain ⟨l, hll⟩ : ∃ l, lnAt ls k = l := ⟨_, rfl⟩
      obtain ⟨wv, hwv⟩ : ∃ v, iAt ws k = v := ⟨_, rfl⟩
      obtain ⟨sv, hsv⟩ : ∃ v, iAt ss k = v := ⟨_, rfl⟩
      rw [hll] at x0 x1 x2 x3 x4 x5 hfl
      rw [hwv] at hww y0 hfl
      rw [hsv] at hsw y1 hfl
      subst hAl hAw hAs
      clear hll hwv hsv
      by_cases hf : l.fr < 0 <;> by_cases ht : l.to < 0
      all_goals
        have hq := hfl.out
        simp only [hf, ht, decide_true, decide_false, cond_true, cond_false] at hq
        have HQ := Lib.hid hq
        clear hq hfl
        go_wp2_with fail
        go_roundw
        case rel => exact ⟨k + 1, by omega, by go_num, by rw [HSS.out, HQ.out]; congr 1; omega, by (repeat first | with_reducible assumption | with_reducible exact Below.refl _ _ | (with_reducible refine Below.alloc ?_ ?side _; case side => (first | omega | (with_reducible exact Below.size (by assumption)) | (simp; done) | (simp; omega))) | (with_reducible refine Below.setCell ?_ ?side _; case side => (first | omega | (with_reducible exact Below.size (by assumption)) | (simp; done) | (simp; omega))) | with_reducible refine Below.drew ?_ | with_reducible refine below_drewN ?_ _ | (with_reducible refine below_step (by assumption) ?side ?_; case side => (first | omega | (with_reducible exact Below.size (by assumption)) | (simp; done) | (simp; omega))))⟩
        case measure => simp [intOf]; omega
    · obtain rfl : k = ns := by omega
      have hB : decide (((k : Nat) : Int) < k) = false := by simp
      have hfs : Hid (sm = sumF (fun j : Nat => chgN ls ws ss (j : Int) k) np) := by
        show _ = _
        rw [← hsm.out]; exact flow_sum HX.out
      obtain ⟨wo, rfl⟩ : ∃ wo : World, wo = wr := ⟨_, rfl⟩
      have hne : truthSets np k pl ls 8 ≠ [] := fun e => by
        have := (askZ_zero T.out.ask).2.2
        rw [e] at this; cases this
      have HSB := Lib.hid (fun j (hj : j < np) => stock_bd HX.out (wrg := 8) (by omega) hne hj)
      clear hne
      go_wp2_with fail
      clear d8 p8 n8 m8 hs1
      go_loopw [7, 8, 11] (fun a b i (wr : World) => ∃ j : Nat, j ≤ np ∧ i = .int .i64 j ∧ a = .int .i64 (sumF (fun j => (endsB np k pl ls 8 (2 * k + j)).lo) j) ∧ b = .int .i64 (sumF (fun j => (endsB np k pl ls 8 (2 * k + j)).hi) j) ∧
        Hid (-999 * (j : Int) ≤ sumF (fun j => (endsB np k pl ls 8 (2 * k + j)).lo) j ∧ sumF (fun j => (endsB np k pl ls 8 (2 * k + j)).lo) j ≤ 999 * (j : Int) ∧ -999 * (j : Int) ≤ sumF (fun j => (endsB np k pl ls 8 (2 * k + j)).hi) j ∧ sumF (fun j => (endsB np k pl ls 8 (2 * k + j)).hi) j ≤ 999 * (j : Int)) ∧ Below w4.heap.size w4 wr) (fun _ _ i _ => np - (intOf i).toNat)
      case atStart => exact ⟨0, by omega, rfl, rfl, rfl, by simp [sumF, Hid], hb⟩
      case round =>
        obtain ⟨j, hj, rfl, rfl, rfl, hbd, hb⟩ := hrel
        obtain ⟨la, hla⟩ : ∃ la, sumF (fun j => (endsB np k pl ls 8 (2 * k + j)).lo) j = la := ⟨_, rfl⟩
        obtain ⟨lb, hlb⟩ : ∃ lb, sumF (fun j => (endsB np k pl ls 8 (2 * k + j)).hi) j = lb := ⟨_, rfl⟩
        have hbd' := hbd.out
        rw [hla, hlb] at hbd'
        rw [hla, hlb]
        have HLA := Lib.hid (show sumF (fun j => (endsB np k pl ls 8 (2 * k + j)).lo) (j + 1) = la + (endsB np k pl ls 8 (2 * k + j)).lo by rw [← hla]; rfl)
        have HLB := Lib.hid (show sumF (fun j => (endsB np k pl ls 8 (2 * k + j)).hi) (j + 1) = lb + (endsB np k pl ls 8 (2 * k + j)).hi by rw [← hlb]; rfl)
        replace hla := Lib.hid hla
        replace hlb := Lib.hid hlb
        have zb := hb.size
        have d8 := fun i => (hb.cell (p := ⟨w.heap.size, i, none⟩) n4).trans (d4.out i)
        have y8 := fun i => (hb.cell (p := ⟨w2.heap.size, i, none⟩) o6).trans (Y6.out i)
        have n8 : w.heap.size < wr.heap.size := by omega
        have o8 : w2.heap.size < wr.heap.size := by omega
        have BWr : Below w.heap.size w wr := BW4.trans (hb.mono zw4)
        clear hbd
        by_cases hlt : j < np
        · have hB : decide ((j : Int) < np) = true := by simp; omega
          have hwj := T.out.c j hlt
          have hsj := HSB.out j hlt
          have hpj := HK.out.sp j
          go_wp2_with fail
          refine (Stock_c Ap Al np cp k cl 8 (j : Int) pl ls wr hp40 hl40 (HPI.out.later BWr) (HLI.out.later BWr)).mono ?_
          rw [ans_ok T.out.ask (isNo_nat hlt), show 2 * k + (j : Int).toNat = 2 * k + j from rfl]
          rintro e w8 ⟨rfl, hb8⟩
          obtain ⟨a1, ha1⟩ : ∃ a1, (endsB np k pl ls 8 (2 * k + j)).lo = a1 := ⟨_, rfl⟩
          obtain ⟨a2, ha2⟩ : ∃ a2, (endsB np k pl ls 8 (2 * k + j)).hi = a2 := ⟨_, rfl⟩
          rw [ha1, ha2] at hwj hsj ⊢
          rw [ha1] at HLA
          rw [ha2] at HLB
          have A1 : -999 ≤ a1 ∧ a1 ≤ 999 ∧ -999 ≤ a2 ∧ a2 ≤ 999 := by omega
          have B8 : Below w4.heap.size w4 w8 := hb.trans (hb8.mono zb)
          have z8 := B8.size
          have d9 := fun i => (B8.cell (p := ⟨w.heap.size, i, none⟩) n4).trans (d4.out i)
          have n9 : w.heap.size < w8.heap.size := by omega
          clear hb8 d8 y8 ha1 ha2 hwj hsj hpj
          unfold vSp
          go_wp2_with fail
          go_name_world W5 hW5
          have hb5 : Below w8.heap.size w8 W5 := by rw [← hW5]; (repeat first | with_reducible assumption | with_reducible exact Below.refl _ _ | (with_reducible refine Below.alloc ?_ ?side _; case side => (first | omega | (with_reducible exact Below.size (by assumption)) | (simp; done) | (simp; omega))) | (with_reducible refine Below.setCell ?_ ?side _; case side => (first | omega | (with_reducible exact Below.size (by assumption)) | (simp; done) | (simp; omega))) | with_reducible refine Below.drew ?_ | with_reducible refine below_drewN ?_ _ | (with_reducible refine below_step (by assumption) ?side ?_; case side => (first | omega | (with_reducible exact Below.size (by assumption)) | (simp; done) | (simp; omega))))
          have u5 : ∀ i, W5.cell? ⟨w8.heap.size, i, none⟩ = #[Value.int .i64 a1, .int .i64 a2][i]? := fun i => by rw [← hW5]; exact World.cell?_alloc_new _ _ _ i
          have l5 : w8.heap.size < W5.heap.size := by rw [← hW5]; simp
          clear hW5
          have B5 : Below w4.heap.size w4 W5 := B8.trans (hb5.mono z8)
          have s1 : IntKind.i64.wrap (la + a1) = la + a1 := IntWalk.i64_in _ (by omega)
          have s2 : IntKind.i64.wrap (lb + a2) = lb + a2 := IntWalk.i64_in _ (by omega)
          go_quiet (fail)
          go_wp2_with fail
          refine ⟨⟨j + 1, by omega, by simp, by rw [HLA.out], by rw [HLB.out], ?_, by (repeat first | with_reducible assumption | with_reducible exact Below.refl _ _ | (with_reducible refine Below.alloc ?_ ?side _; case side => (first | omega | (with_reducible exact Below.size (by assumption)) | (simp; done) | (simp; omega))) | (with_reducible refine Below.setCell ?_ ?side _; case side => (first | omega | (with_reducible exact Below.size (by assumption)) | (simp; done) | (simp; omega))) | with_reducible refine Below.drew ?_ | with_reducible refine below_drewN ?_ _ | (with_reducible refine below_step (by assumption) ?side ?_; case side => (first | omega | (with_reducible exact Below.size (by assumption)) | (simp; done) | (simp; omega))))⟩, by simp [intOf]; omega⟩
          rw [HLA.out, HLB.out]
          refine Lib.hid ?_
          omega
        · obtain rfl : j = np := by omega
          have hB : decide (((j : Nat) : Int) < j) = false := by simp
          have q1 : la ≤ sm := by
            rw [hfs.out, ← hla.out]
            exact sumF_le fun i hi => (T.out.c i hi).1
          have q2 : sm ≤ lb := by
            rw [hfs.out, ← hlb.out]
            exact sumF_le fun i hi => (T.out.c i hi).2
          go_wp2_with fail
          clear q1 q2 hbd' y8 o8
          have hret : ∀ e w', PrfRet j k pl ls wrg e w' = (match prfO j k pl ls with
            | none => e = .returned (.tuple #[.slice none 0 0, .int .i64 3])
            | some s => ∃ A c, e = .returned (.tuple #[.slice A (memK s j).length c, .int .i64 0]) ∧ IntsAt w' A (memK s j).length ((memK s j).map fun k : Nat => (k : Int))) := by intro e w'; unfold PrfRet; rw [HCK.out]; rfl
          cases hpo : prfO j k pl ls with
          | none =>
            have HRET := Lib.hid (show ∀ e w', PrfRet j k pl ls wrg e w' = (e = .returned (.tuple #[.slice none 0 0, .int .i64 3])) by intro e w'; rw [hret, hpo])
            clear hret hpo
            refine (Proof_c Ap Al j cp k cl wrg pl ls wr hp40 hl40 (HPI.out.later BWr) (HLI.out.later BWr)).mono ?_
            rintro e w7 ⟨hr, hb7⟩
            rw [HRET.out] at hr
            subst hr
            go_wp2_with (go_at_call 13; refine (works_c _).mono ?_; (rintro e w10 ⟨rfl, hb10⟩))
            go_ret
            exact ⟨rfl, BWr.trans ((hb7.trans (hb10.mono hb7.size)).mono BWr.size)⟩
          | some s =>
            have HRET := Lib.hid (show ∀ e w', PrfRet j k pl ls wrg e w' = (∃ A c, e = .returned (.tuple #[.slice A (memK s j).length c, .int .i64 0]) ∧ IntsAt w' A (memK s j).length (memI s j)) by intro e w'; rw [hret, hpo]; rfl)
            obtain ⟨hs1, hs2, hs3⟩ := prf_spec hpo
            have HTT := Lib.hid (show (decide (0 < (memK s j).length) && prvB j k pl ls s) = true by simp [memK_pos hs1 hs2, hs3])
            have HNO := Lib.hid (show ¬ (∀ i, i < k → (hsB s (lnAt ls i).to != hsB s (lnAt ls i).fr) = true → isRt ls ws i = true) from fun h => by
              have := prv_no HX.out HT.out hs1 h
              rw [hs3] at this
              cases this)
            obtain ⟨g, hg⟩ : ∃ g, (memK s j).length = g := ⟨_, rfl⟩
            have hg40 : g ≤ 40 := by have := memK_len s j; omega
            have HIP := Lib.hid (show ∀ (Ag : Option Addr) (cg : Nat) (W : World), SpsAt W Ap j pl → LnsAt W Al k ls → IntsAt W Ag g (memI s j) →
                Calls Try.prog 43 #[.agg #[.slice Ap j cp, .slice Al k cl, .int .i64 wrg], .slice Ag g cg] W fun e W' => e = .returned (.bool true) ∧ Below W.heap.size W W' from fun Ag cg W h1 h2 h3 => by
              have := IsProof_c Ap Al Ag j cp k cl cg s wrg pl ls W HX.out.ok hp40 hl40 (fun k hk => ⟨HX.out.inb.fr k hk, HX.out.inb.to k hk⟩) h1 h2 (by rw [hg]; exact h3)
              rw [HTT.out, hg] at this
              exact this)
            have HIN := Lib.hid (show ∀ (Ag : Option Addr) (cg : Nat) (t : Int) (W : World), (t = -1 ∨ (0 ≤ t ∧ t < j)) → IntsAt W Ag g (memI s j) →
                Calls Try.prog 44 #[.slice Ag g cg, .int .i64 t] W fun e W' => e = .returned (.bool (hsB s t)) ∧ Below W.heap.size W W' from fun Ag cg t W h1 h2 => by
              have := In_c Ag g cg t (memI s j) W (by omega) h2
              rw [← hg, memI, in_mem h1, hg] at this
              exact this.mono (by rintro e w' ⟨rfl, rfl⟩; exact ⟨rfl, Below.refl _ _⟩))
            rw [hg] at HRET
            clear hret hpo hs1 hs2 hs3 hg HTT
            refine (Proof_c Ap Al j cp k cl wrg pl ls wr hp40 hl40 (HPI.out.later BWr) (HLI.out.later BWr)).mono ?_
            rintro e w7 ⟨hr, hb7⟩
            rw [HRET.out] at hr
            obtain ⟨Ag, cg, rfl, hI⟩ := hr
            have HI := Lib.hid hI
            have z7 := hb7.size
            have d9 := fun i => (hb7.cell (p := ⟨w.heap.size, i, none⟩) n8).trans (d8 i)
            have n9 : w.heap.size < w7.heap.size := by omega
            have C7 : Below w4.heap.size w4 w7 := hb.trans (hb7.mono zb)
            have BW7 : Below w.heap.size w w7 := BWr.trans (hb7.mono BWr.size)
            clear hI hb7 d8
            go_wp2_with fail
            refine (HIP.out Ag cg w7 (HPI.out.later BW7) (HLI.out.later BW7) HI.out).mono ?_
            rintro e w9 ⟨rfl, hb9⟩
            have z9 := hb9.size
            have BW9 : Below w.heap.size w w9 := BW7.trans (hb9.mono BW7.size)
            have HI9 := Lib.hid (HI.out.later hb9)
            have C9 : Below w4.heap.size w4 w9 := C7.trans (hb9.mono C7.size)
            have zc9 := C9.size
            have n10 : w.heap.size < w9.heap.size := by omega
            have m10 : w.heap.size + 1 < w9.heap.size := by omega
            have D9 := Lib.hid (fun i => (C9.cell (p := ⟨w.heap.size, i, none⟩) n4).trans (d4.out i))
            have P9 := Lib.hid (fun i => (C9.cell (p := ⟨w.heap.size + 1, i, none⟩) m4).trans (p4.out i))
            have d10 := D9.out
            clear d9 hb9
            go_wp2_with fail
            go_loopw [16] (fun i (wr : World) => ∃ m : Nat, m ≤ k ∧ i = .int .i64 m ∧ Hid (∀ i, i < m → (hsB s (lnAt ls i).to != hsB s (lnAt ls i).fr) = true → isRt ls ws i = true) ∧ Below w9.heap.size w9 wr) (fun i _ => k - (intOf i).toNat)
            case atStart => exact ⟨0, by omega, rfl, fun j hj => absurd hj (by omega), Below.refl _ _⟩
            case round =>
              obtain ⟨m, hm, rfl, HM, hbm⟩ := hrel
              have zm := hbm.size
              have d11 := fun i => (hbm.cell (p := ⟨w.heap.size, i, none⟩) n10).trans (D9.out i)
              have p11 := fun i => (hbm.cell (p := ⟨w.heap.size + 1, i, none⟩) m10).trans (P9.out i)
              have BWm : Below w.heap.size w wr := BW9.trans (hbm.mono BW9.size)
              clear d10
              by_cases hml : m < k
              · have hB' : decide ((m : Int) < k) = true := by simp; omega
                obtain ⟨bl, ol, hAl, hbl, x0, x1, x2, x3, x4, x5⟩ := (HLI.out.later BWm).get hml
                have i1 := HX.out.inb.to m hml
                have i2 := HX.out.inb.fr m hml
                have hin : ∀ (t : Int) (W : World), (t = -1 ∨ (0 ≤ t ∧ t < j)) → Below w9.heap.size w9 W → Calls Try.prog 44 #[.slice Ag g cg, .int .i64 t] W fun e W' => e = .returned (.bool (hsB s t)) ∧ Below W.heap.size W W' := fun t W h1 h2 => HIN.out Ag cg t W h1 (HI9.out.later h2)
                have hir : ∀ W, Below w9.heap.size w9 W → Calls Try.prog 23 #[.agg #[.slice Ap j cp, .slice Al k cl, .int .i64 wrg], .agg #[.slice Aw k cw, .slice As k cs], .int .i64 m] W fun e W' => e = .returned (.bool (isRt ls ws m)) ∧ Below W.heap.size W W' := fun W h =>
                  IsRight_c Ap Al Aw As j cp k cl k cw k cs m wrg ls ws W hl40 hw40 hml hml (HLI.out.later (BW9.trans (h.mono BW9.size))) (HWI.out.later (BW9.trans (h.mono BW9.size)))
                have HM1 := Lib.hid (fun (h : (hsB s (lnAt ls m).to != hsB s (lnAt ls m).fr) = true → isRt ls ws m = true) (i : Nat) (hi : i < m + 1) => (by
                  rcases Nat.lt_succ_iff_lt_or_eq.1 hi with h' | rfl
                  · exact HM.out i h'
                  · exact h : (hsB s (lnAt ls i).to != hsB s (lnAt ls i).fr) = true → isRt ls ws i = true))
                obtain ⟨l, hll⟩ : ∃ l, lnAt ls m = l := ⟨_, rfl⟩
                rw [hll] at x0 x1 x2 x3 x4 x5 i1 i2 HM1
                obtain ⟨bt, hbt⟩ : ∃ b, hsB s l.to = b := ⟨_, rfl⟩
                obtain ⟨bf, hbf⟩ : ∃ b, hsB s l.fr = b := ⟨_, rfl⟩
                obtain ⟨br, hbr⟩ : ∃ b, isRt ls ws m = b := ⟨_, rfl⟩
                have ht := fun W => hin l.to W i1
                have hf := fun W => hin l.fr W i2
                rw [hbt] at ht HM1
                rw [hbf] at hf HM1
                rw [hbr] at hir HM1
                subst hAl
                replace ht := Lib.hid ht
                replace hf := Lib.hid hf
                replace hir := Lib.hid hir
                clear hll hbt hbf hbr i1 i2 hin
                go_wp2_with fail
                go_name_world W5 hW5
                have hb5 : Below wr.heap.size wr W5 := by rw [← hW5]; (repeat first | with_reducible assumption | with_reducible exact Below.refl _ _ | (with_reducible refine Below.alloc ?_ ?side _; case side => (first | omega | (with_reducible exact Below.size (by assumption)) | (simp; done) | (simp; omega))) | (with_reducible refine Below.setCell ?_ ?side _; case side => (first | omega | (with_reducible exact Below.size (by assumption)) | (simp; done) | (simp; omega))) | with_reducible refine Below.drew ?_ | with_reducible refine below_drewN ?_ _ | (with_reducible refine below_step (by assumption) ?side ?_; case side => (first | omega | (with_reducible exact Below.size (by assumption)) | (simp; done) | (simp; omega))))
                have u5 : ∀ i, W5.cell? ⟨wr.heap.size, i, none⟩ = #[Value.int .i64 l.fr, .int .i64 l.to, .int .i64 l.w.lo, .int .i64 l.w.hi, .int .i64 l.s.lo, .int .i64 l.s.hi][i]? := fun i => by rw [← hW5]; exact World.cell?_alloc_new _ _ _ i
                have l5 : wr.heap.size < W5.heap.size := by rw [← hW5]; simp
                clear hW5
                have B5 : Below w9.heap.size w9 W5 := hbm.trans (hb5.mono zm)
                have z5 := B5.size
                have d12 := fun i => (B5.cell (p := ⟨w.heap.size, i, none⟩) n10).trans (D9.out i)
                have p12 := fun i => (B5.cell (p := ⟨w.heap.size + 1, i, none⟩) m10).trans (P9.out i)
                have n12 : w.heap.size < W5.heap.size := by omega
                have m12 : w.heap.size + 1 < W5.heap.size := by omega
                clear d11 p11 x0 x1 x2 x3 x4 x5
                cases bt <;> cases bf <;> cases br
                all_goals
                  have hcq := fun p : Regrown => (bcell (below_regrown W5 p.d p.os)).1
                  refine wp_region_quiet_below (by kernel_rfl) (by kernel_rfl) ?_
                  repeat (go_big_quiet_step (((first | (go_at_call 44; first | with_reducible exact Calls.regrown_of (ht.out _ (B5.trans ((below_regrown _ _ _).mono z5))) | with_reducible exact Calls.regrown_of (hf.out _ (B5.trans ((below_regrown _ _ _).mono z5)))) | (go_at_call 23; with_reducible exact Calls.regrown_of (hir.out _ (B5.trans ((below_regrown _ _ _).mono z5))))))))
                  refine wpQuiet_nil ?_
                  intro wq hq
                  obtain ⟨pq, hq⟩ := hq
                  have hbq : Below W5.heap.size W5 wq := by rw [hq]; exact below_regrown _ _ _
                  clear hq hcq pq
                  obtain ⟨hcq, hfq⟩ := bcell hbq
                  have zq := hbq.size
                  have Bq : Below w9.heap.size w9 wq := B5.trans (hbq.mono z5)
                  go_wp2_with (go_at_call 13; refine (works_c _).mono ?_; (rintro e w10 ⟨rfl, hb10⟩))
                  first
                    | (go_ret
                       exact ⟨rfl, BW9.trans ((Bq.trans (hb10.mono Bq.size)).mono BW9.size)⟩)
                    | (refine ⟨⟨m + 1, by omega, by simp, HM1.out (by simp), Bq⟩, by simp [intOf]; omega⟩)
              · obtain rfl : m = k := by omega
                exact absurd HM.out HNO.out
set_option maxRecDepth 100000 in
theorem flow_lifted (os : Os) (started : os.Started) (H : Type) (enc : TypeId × Value → H) :
    ReturnsInHanded {} Try.checked os 10 .any (Rows.scrapFlowSpec.pre6 enc Try.prog Try.f10 Rows.scrapFlowRow.domain false) (Rows.scrapFlowSpec.post enc Try.prog Try.f10 false true false false) := by
  refine returnsInHanded_of_change (C := Try.checked) jn_own started (by kernel_rfl) Try.func10
    (ChangeSpec.witness6 (enc := enc) (C := Try.checked) false ⟨#[], #[.agg #[.slice none 0 0, .slice none 0 0, .int .i64 0], .agg #[.slice none 0 0, .slice none 0 0]], []⟩ 8 (by kernel_rfl) (by kernel_rfl) (by kernel_rfl) (by kernel_rfl)) ?_
  intro W base args ds gs before hval0 hW hcnd _
  have hval : ∀ (j : Nat) t v, Try.f10.params[j]? = some t → args[j]? = some v → Value.okWide Try.prog W .any base t v := hval0
  have hW' := hW
  obtain ⟨p, q, hA0, hV, rfl, hfz, hnd⟩ := hW
  have hA : DataW.TrodAll enc Try.prog W 0 (fun _ => true) true Try.f10.params.toList args.toList ds p := hA0
  rw [Try.params10] at hA hval
  obtain ⟨v0, v1, d0, d1, p0, p1, rfl, rfl, rfl, h0, h1⟩ := trodAll_two hA
  obtain ⟨rfl, rfl⟩ := trodVars_none hV
  obtain ⟨Aw, As, nw, cw, ns, cs, ws, ss, rfl, hnw, hns, HW, HS⟩ := open_plan (hval 1 41 v1 rfl rfl) h1
  obtain ⟨Ap, Al, np, cp, nl, cl, wr, pl, ls, rfl, hnp, hnl, HP, HL, -⟩ := open_book (hval 0 25 v0 rfl rfl) h0
  clear hA0 hval0
  refine (FlowLaw_c Ap Al Aw As np cp nl cl nw cw ns cs wr pl ls ws ss W hnp hnl hnw hns HP HL HW HS).mono fun e W' ⟨he, hb⟩ => ?_
  subst he
  exact ⟨_, rfl, law_post jn_kids jn_full (by rw [Try.params10]; decide) (by kernel_rfl) Try.underlying4 rfl rfl rfl rfl hW' hb⟩

theorem flow_over : Rows.scrapFlowRow.holds Try.pinned (OpenSpec.ofChange Rows.scrapFlowSpec) :=
  OpenClaim.holds_of_wide 10 Try.f10 rfl rfl rfl rfl rfl rfl rfl ⟨rfl, rfl, rfl, rfl, rfl⟩ rfl rfl rfl rfl rfl (by kernel_rfl) Try.func10 (by kernel_rfl)
    (of_decide_eq_true (by kernel_rfl)) (by unfold Func.isWrapper; first | (rw [if_pos (by decide +kernel)]; kernel_rfl) | (rw [if_neg (by decide +kernel)]; exact ⟨rfl, rfl⟩))
    (fun os started H enc _ => flow_lifted os started H enc)

/-- THE STATEMENT -/
theorem flow_holds : Rows.ScrapFlowSaid := flow_over
#print axioms flow_holds

end Go.Proofs.Ytoehifincdflhaa
